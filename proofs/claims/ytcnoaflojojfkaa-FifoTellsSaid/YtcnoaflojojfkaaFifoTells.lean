/- FifoTells: all things are told, the first one first, for as long as it is asked: the walk of the law. No condition. -/
import Derived.Test.YtcnoaflojojfkaaFifoAll
import Derived.Test.YtcnoaflojojfkaaBits
import Derived.Deep.RegionHeld3
namespace Go.Proofs.Ytcnoaflojojfkaa.FifoTells
open Go.RowKit Go.Shelf Go.Proofs.Ytcnoaflojojfkaa.Fifo
set_option linter.unusedVariables false
set_option linter.unusedSimpArgs false
set_option maxRecDepth 100000
attribute [local go_sem] Oper.semAt_some

/-- what holds at the head of each round that fills the ring; the list's block L, k's block A -/
structure Inv (w : World) (p q A : Nat) (zs : List Int) (i : Nat) (wr : World) : Prop where
  ring : ∃ (fr : Nat) (cs : List Int), Ring wr p q 40 fr (min i 40) cs ∧ things cs 40 fr (min i 40) = (zs.take i).drop (i - min i 40)
  cnt : Blk wr A [.int .i64 (i - min i 40 : Nat)] 3
  fr : Fr [p, q, A] w wr

/-- the value of a cell that is there -/
def cv (V : World) (a : Addr) : Value := (V.cell? a).getD undef
theorem cv_of {V : World} {a : Addr} {v : Value} (h : V.cell? a = some v) : V.cell? a = some (cv V a) := by unfold cv; rw [h]; rfl
/-- what holds in the region that tells the result -/
structure Tail (wg : World) (p q E L D fr m a : Nat) (cs : List Int) (n : Int) (V : World) : Prop where
  res : ∃ u, Blk V (L + 1 + 1) [.bool u] 4
  at_ : Blk V E [.int .i64 a] 3
  num : Blk V (L + 1) [.int .i64 n] 3
  ring : Ring V p q 40 fr m cs
  mark : V.heap[D]? = some (.deferred (some []))
  fr : Fr [E, L + 1 + 1] wg V
  ne : L + 1 + 1 ≠ E ∧ L + 1 + 1 ≠ p ∧ L + 1 + 1 ≠ q
theorem Tail.all {wg : World} {p q E L D fr m a : Nat} {cs : List Int} {n : Int} {V : World} (h : Tail wg p q E L D fr m a cs n V) :
    Hid (Tail wg p q E L D fr m a cs n V) ∧ V.cell? ⟨E, 0, none⟩ = some (.int .i64 a) ∧ V.cell? ⟨L + 1, 0, none⟩ = some (.int .i64 n) ∧ V.cell? ⟨p, 2, none⟩ = some (.int .i64 m) ∧ V.cell? ⟨L + 1 + 1, 0, none⟩ = some (cv V ⟨L + 1 + 1, 0, none⟩) ∧ V.frozen? ⟨L + 1 + 1, 0, none⟩ = false := by
  obtain ⟨u, hu⟩ := h.res
  exact ⟨h, h.at_.cell_at rfl, h.num.cell_at rfl, h.ring.top.cell_at rfl, cv_of (hu.cell_at (o := 0) rfl), hu.thawed 0⟩
theorem Tail.fr0 {wg : World} {p q E L D fr m a : Nat} {cs : List Int} {n : Int} {V V' : World} (h : Tail wg p q E L D fr m a cs n V) (hf : Fr [] V V') : Tail wg p q E L D fr m a cs n V' :=
  ⟨h.res.imp fun u hu => hu.fr hf (by simp), h.at_.fr hf (by simp), h.num.fr hf (by simp), h.ring.fr hf (by simp) (by simp), (hf.block D (Array.getElem?_eq_some_iff.1 h.mark).1 (by simp)).trans h.mark, h.fr.trans0 hf, h.ne⟩
theorem Tail.set {wg : World} {p q E L D fr m a : Nat} {cs : List Int} {n : Int} {V : World} (h : Tail wg p q E L D fr m a cs n V) (b : Bool) : Tail wg p q E L D fr m a cs n (V.setCell ⟨L + 1 + 1, 0, none⟩ (.bool b)) := by
  obtain ⟨u, hu⟩ := h.res
  have f : Fr [L + 1 + 1] V (V.setCell ⟨L + 1 + 1, 0, none⟩ (.bool b)) := (Fr.refl _ _).set (by simp) _
  have h1 := h.ne
  have hd : D ≠ L + 1 + 1 := fun e => by subst e; have := h.mark; rw [hu] at this; cases this
  exact ⟨⟨b, hu.set 0 _⟩, h.at_.fr f (by simp; omega), h.num.fr f (by simp), h.ring.fr f (by simp; omega) (by simp; omega), (f.block D (Array.getElem?_eq_some_iff.1 h.mark).1 (by simpa using hd)).trans h.mark, h.fr.same (f.wide (by simp)), h.ne⟩

set_option maxHeartbeats 8000000 in
theorem walk (zs : List Int) (v0 : Value) {w : World} (hr0 : Reads w 1 v0 zs.length (zs.map (Value.int .i64))) (_hwf : ∀ x ∈ zs, (Lit.int .i64 x).wf = true) (hlen : zs.length * 8 ≤ 140737488351232) (n : Int) (_wn : (Lit.int .i64 n).wf = true) :
    Calls Try.prog 10 #[v0, .int .i64 n] w fun e w' => e = .returned (.bool true) ∧ Fr [] w w' := by
  obtain ⟨hl0, a0, c0, rfl, hc0, hcell⟩ := id hr0
  clear hl0
  have HR := Lib.hid hr0
  clear hcell hr0 _hwf _wn
  refine calls_marks Try.func10 rfl ?_
  simp only [Try.ntmps10, List.size_toArray, List.length_cons, List.length_nil, Nat.reduceAdd, Nat.reduceSub, Array.replicate_succ, Array.replicate_zero, List.push_toArray, List.append_toArray, List.nil_append, List.cons_append]
  go_upto_region 1 with (fail)
  obtain ⟨B1, B2, B3, F0⟩ := new3 w [.slice a0 zs.length c0] 35 [.int .i64 n] 3 [.bool false] 4
  obtain ⟨wa, hwa⟩ : ∃ x : World, x = ((w.alloc (.cells #[.slice a0 zs.length c0] 35)).alloc (.cells #[.int .i64 n] 3)).alloc (.cells #[.bool false] 4) := ⟨_, rfl⟩
  rw [← hwa]
  rw [← hwa] at B1 B2 B3 F0
  obtain ⟨L, hL⟩ : ∃ L, L = w.heap.size := ⟨_, rfl⟩
  rw [← hL] at B1 B2 B3 ⊢
  have HL : Hid (L = w.heap.size) := hL
  have HB1 := Lib.hid B1
  have HB2 := Lib.hid B2
  have HB3 := Lib.hid B3
  have HF0 := Lib.hid F0
  clear hwa B1 B2 B3 F0 hL
  go_wp2_with fail
  refine (awake_any _).mono ?_
  rintro e wb ⟨rfl, hFb⟩
  have HFb := Lib.hid hFb
  clear hFb
  go_wp2_with fail
  refine (new_any 40 40 (by omega) _).mono ?_
  rintro e wc ⟨rfl, R1, F1⟩
  obtain ⟨p, hp⟩ : ∃ p, p = wb.heap.size + 1 := ⟨_, rfl⟩
  obtain ⟨q, hq⟩ : ∃ q, q = wb.heap.size := ⟨_, rfl⟩
  rw [← hp, ← hq] at R1
  rw [← hp]
  have HP : Hid (L + 3 ≤ p ∧ L + 3 ≤ q ∧ p < wc.heap.size ∧ q < wc.heap.size) := by
    have h1 := HFb.out.size
    have h2 := HB3.out.lt
    exact ⟨by omega, by omega, R1.top.lt, R1.row.lt⟩
  clear hp hq
  have RIN := Lib.hid R1
  have FIN := Lib.hid (HFb.out.trans0 F1)
  clear F1 R1 HFb
  go_upto_region 5 with (fail)
  obtain ⟨A, hA⟩ : ∃ A, A = wc.heap.size := ⟨_, rfl⟩
  obtain ⟨wd, hwd⟩ : ∃ x : World, x = wc.alloc (.cells #[.int .i64 0] 3) := ⟨_, rfl⟩
  rw [← hwd, ← hA]
  have HA : Hid (L + 3 ≤ A ∧ p < A ∧ q < A) := by
    have h1 := HP.out; have h2 := FIN.out.size; have h3 := HB3.out.lt
    exact ⟨by omega, by omega, by omega⟩
  have FD : Hid (Fr [] wa wd) := by rw [hwd]; exact FIN.out.alloc _
  have HI0 : Hid (Inv wd p q A zs 0 wd) := by
    refine ⟨⟨0, List.replicate 40 0, ?_, rfl⟩, ?_, Fr.refl _ _⟩
    · rw [hwd]; exact RIN.out.fr ((Fr.refl [] _).alloc _) (by simp) (by simp)
    · rw [hwd, hA]; exact Blk.new wc _ _
  have D1 : Hid (Blk wd L [.slice a0 zs.length c0] 35) := HB1.out.fr FD.out (by simp)
  have D2 : Hid (Blk wd (L + 1) [.int .i64 n] 3) := HB2.out.fr FD.out (by simp)
  have D3 : Hid (Blk wd (L + 1 + 1) [.bool false] 4) := HB3.out.fr FD.out (by simp)
  have FW : Hid (Fr [] w wd) := HF0.out.trans0 FD.out
  have HRD : Hid (∀ (i : Nat) (z : Int), zs[i]? = some z → ∃ b o, a0 = some ⟨b, o, none⟩ ∧ ∀ S wx, Fr S wd wx → (∀ x ∈ S, L ≤ x) → wx.cell? ⟨b, o + i, none⟩ = some (.int .i64 z)) := Lib.hid (by
    intro i z hz
    obtain ⟨_, a, c, h1, _, h | ⟨b, o, h2, h⟩⟩ := HR.out
    · rw [List.map_eq_nil_iff] at h; rw [h] at hz; simp at hz
    · simp at h1
      have hc := h i _ (by rw [List.getElem?_map, hz]; rfl)
      have hb := World.block_lt_of_cell? w _ hc
      refine ⟨b, o, by rw [h1.1, h2], fun S wx hf hs => hf.cell (FW.out.cell hc (by simp)) (fun hm => ?_)⟩
      have h1 := hs b hm
      have h2 : b < w.heap.size := hb
      have h3 := HL.out
      omega)
  clear hwd hA HB1 HB2 HB3 FIN RIN HF0 FD
  go_upto_block 0 with (fail)
  go_cut [7] from 16 to 42 (fun v7 wx => Inv wd p q A zs (min zs.length 60) wx)
  case first =>
    go_wp2_with fail
    go_loopw [7] (fun v7 wr => ∃ i : Nat, i ≤ zs.length ∧ i ≤ 60 ∧ v7 = .int .i64 i ∧ Inv wd p q A zs i wr) (fun v7 _ => zs.length - (intOf v7).toNat)
    case atStart => exact ⟨0, by omega, by omega, rfl, HI0.out⟩
    case round =>
      obtain ⟨i, hi, h60, rfl, hI⟩ := hrel
      have HI := Lib.hid hI
      clear hI HI0
      have hl0 : wr.cell? ⟨L, 0, none⟩ = some (.slice a0 zs.length c0) := (D1.out.fr HI.out.fr (by have := HP.out; have := HA.out; simp; omega)).cell_at rfl
      by_cases hlt : i < zs.length ∧ i < 60
      · obtain ⟨hlt, hlt60⟩ := hlt
        have hc8 : decide ((i : Int) < 60) = true := decide_eq_true (by omega)
        obtain ⟨z, hz⟩ : ∃ z, zs[i]? = some z := ⟨zs[i], by simp [hlt]⟩
        obtain ⟨b1, o1, rfl, hrd⟩ := HRD.out i z hz
        have HRZ := Lib.hid hrd
        have hcz := hrd _ wr HI.out.fr (by have := HP.out; have := HA.out; simp; omega)
        have htk : zs.take (i + 1) = zs.take i ++ [z] := by rw [List.take_add_one, hz]; rfl
        have HTK := Lib.hid htk
        have hlen1 : (zs.take i).length = i := by rw [List.length_take]; omega
        clear hz hrd htk
        have HPA : Hid (A ≠ p ∧ A ≠ q ∧ L < p ∧ L < q ∧ L < A ∧ L ≤ p ∧ L ≤ q ∧ L ≤ A) := by have := HP.out; have := HA.out; exact ⟨by omega, by omega, by omega, by omega, by omega, by omega, by omega, by omega⟩
        obtain ⟨fr, cs, hR, hth⟩ := HI.out.ring
        by_cases h40 : i < 40
        · rw [show min i 40 = i by omega] at hR hth
          rw [Nat.sub_self, List.drop_zero] at hth
          have HRi := Lib.hid hR
          have HTH := Lib.hid hth
          clear hR hth
          go_wp2_with (first | (go_at_call 42; refine (push_room p q 40 fr i cs z _ HRi.out h40).mono ?_; rintro e w2 ⟨rfl, hR2, hF2⟩; have HR2 := Lib.hid hR2; have HF2 := Lib.hid hF2; clear hR2 hF2))
          go_roundw
          case rel =>
            refine ⟨i + 1, by omega, by omega, by go_num, ⟨fr, cs.set ((fr + i) % 40) z, ?_, ?_⟩, ?_, HI.out.fr.same (HF2.out.wide (by simp))⟩
            · rw [show min (i + 1) 40 = i + 1 by omega]; exact HR2.out
            · rw [show min (i + 1) 40 = i + 1 by omega, Nat.sub_self, List.drop_zero, things_push cs 40 fr i z HRi.out.len (by omega) h40, HTH.out, HTK.out]
            · have h1 := HI.out.cnt.fr HF2.out (by have := HPA.out; simp; omega)
              rw [show i + 1 - min (i + 1) 40 = 0 by omega]
              rw [show i - min i 40 = 0 by omega] at h1
              exact h1
          case measure => simp [intOf]; omega
        · rw [show min i 40 = 39 + 1 by omega] at hR hth
          have HRi := Lib.hid hR
          have HTH := Lib.hid hth
          have hca := HI.out.cnt
          rw [show i - min i 40 = i - 40 by omega] at hca
          obtain ⟨k, hk⟩ : ∃ k, i = k + 40 := ⟨i - 40, by omega⟩
          rw [show i - 40 = k by omega] at hca
          have HCA := Lib.hid hca
          have HKI := Lib.hid hk
          have hk60 : k ≤ 20 := by omega
          clear hR hth hca hk
          go_wp2_with (first | (go_at_call 42; refine (push_full p q 40 fr 40 cs z _ HRi.out rfl).mono ?_; rintro e w2 ⟨rfl, rfl⟩))
          go_wp2_with (first | (go_at_call 43; refine (pop_some p q 40 fr 39 cs _ HRi.out).mono ?_; rintro e w2 ⟨rfl, hR2, hF2⟩; have HR2 := Lib.hid hR2; have HF2 := Lib.hid hF2; have hl2 := hF2.cell hl0 (by have := HPA.out; simp; omega); have hcz2 := HRZ.out _ _ (HI.out.fr.same (hF2.wide (by simp))) (by have := HPA.out; simp; omega); clear hR2 hF2))
          have hrn : (things (cs.set fr 0) 40 ((fr + 1) % 40) 39) = (things cs 40 fr (39 + 1)).tail := things_pop cs 40 fr 39 0 HRi.out.len (by omega) (by omega) HRi.out.from_lt
          have HRN := Lib.hid hrn
          clear hrn
          go_wp2_with (first | (go_at_call 42; refine (push_room p q 40 ((fr + 1) % 40) 39 _ z _ HR2.out (by omega)).mono ?_; rintro e w3 ⟨rfl, hR3, hF3⟩; have HR3 := Lib.hid hR3; have HF3 := Lib.hid (HF2.out.same hF3); have HCA3 := Lib.hid (HCA.out.fr HF3.out (by have := HPA.out; simp; omega)); have hca3 := HCA3.out.cell_at (o := 0) rfl; have hfz := HCA3.out.thawed; clear hR3 hF3))
          go_roundw
          case rel =>
            have f3 : Fr [A] w3 (w3.setCell ⟨A, 0, none⟩ (.int .i64 ((k : Int) + 1))) := (Fr.refl _ _).set (by simp) _
            refine ⟨i + 1, by omega, by omega, by go_num, ⟨(fr + 1) % 40, (cs.set fr 0).set (((fr + 1) % 40 + 39) % 40) z, ?_, ?_⟩, ?_, (HI.out.fr.same (HF3.out.wide (by simp))).same (f3.wide (by simp))⟩
            · rw [show min (i + 1) 40 = 39 + 1 by omega]
              exact HR3.out.fr f3 (by have := HPA.out; simp; omega) (by have := HPA.out; simp; omega)
            · rw [show min (i + 1) 40 = 39 + 1 by omega, things_push _ 40 _ 39 z HR2.out.len (by omega) (by omega), HRN.out, HTH.out, HTK.out]
              rw [show i + 1 - (39 + 1) = (i - (39 + 1)) + 1 by omega, List.drop_append_of_le_length (by rw [hlen1]; omega), List.tail_drop]
            · rw [show i + 1 - min (i + 1) 40 = k + 1 by have := HKI.out; omega]
              exact HCA3.out.set 0 _
          case measure => simp [intOf]; omega
      · have HIE : Hid (Inv wd p q A zs (min zs.length 60) wr) := by rw [show min zs.length 60 = i by omega]; exact HI.out
        have HL2 : Hid (i < zs.length → decide ((i : Int) < 60) = false) := fun h => decide_eq_false (by omega)
        clear hlt
        by_cases hi2 : i < zs.length
        · have hc8 := HL2.out hi2
          go_wp2_with fail
          go_meet
          case rel => exact HIE.out
        · obtain rfl : i = zs.length := by omega
          go_wp2_with fail
          go_meet
          case rel => exact HIE.out
  case rest =>
    have HI := Lib.hid hcut
    clear hcut HI0
    obtain ⟨N, hN⟩ : ∃ N, N = min zs.length 60 := ⟨_, rfl⟩
    rw [← hN] at HI
    have hNl : N ≤ zs.length ∧ N ≤ 60 := by omega
    clear hN
    go_upto_region 13 with (fail)
    obtain ⟨E, hE⟩ : ∃ E, E = wc.heap.size := ⟨_, rfl⟩
    obtain ⟨wf, hwf⟩ : ∃ x : World, x = wc.alloc (.cells #[.int .i64 0] 3) := ⟨_, rfl⟩
    rw [← hwf, ← hE]
    have FX : Hid (Fr [] wc wf) := by rw [hwf]; exact (Fr.refl _ _).alloc _
    have BE : Hid (Blk wf E [.int .i64 0] 3) := by rw [hwf, hE]; exact Blk.new wc _ _
    have HE : Hid (E = wc.heap.size) := hE
    clear hwf hE
    go_wp2_with fail
    refine (all_any p wf).mono ?_
    rintro e wg ⟨rfl, hwg⟩
    obtain ⟨X, hX⟩ : ∃ X, X = wf.heap.size := ⟨_, rfl⟩
    rw [← hX]
    have FG : Hid (Fr [] wf wg) := by rw [hwg]; exact (Fr.refl _ _).alloc _
    have BX : Hid (Blk wg X [.pointer (some ⟨p, 0, none⟩)] 69) := by rw [hwg, hX]; exact Blk.new wf _ _
    clear hwg
    have HX : Hid (E < X) := by rw [hX]; exact BE.out.lt
    clear hX
    have FWG : Hid (Fr [p, q, A] wd wg) := (HI.out.fr.trans0 FX.out).trans0 FG.out
    obtain ⟨fr, cs, hR, hth⟩ := HI.out.ring
    obtain ⟨m, hm⟩ : ∃ m, m = min N 40 := ⟨_, rfl⟩
    obtain ⟨k, hk⟩ : ∃ k, k = N - m := ⟨_, rfl⟩
    obtain ⟨M, hM⟩ : ∃ M, M = (zs.take N).drop k := ⟨_, rfl⟩
    rw [← hm] at hR hth
    rw [← hk, ← hM] at hth
    have HRG : Hid (Ring wg p q 40 fr m cs) := (hR.fr FX.out (by simp) (by simp)).fr FG.out (by simp) (by simp)
    have HTH := Lib.hid hth
    have BA : Hid (Blk wg A [.int .i64 k] 3) := by
      have h := HI.out.cnt
      rw [← hm, ← hk] at h
      exact (h.fr FX.out (by simp)).fr FG.out (by simp)
    have BE' : Hid (Blk wg E [.int .i64 0] 3) := BE.out.fr FG.out (by simp)
    have HPX : Hid (L + 1 + 1 < p ∧ L + 1 + 1 < q ∧ L + 1 + 1 < A ∧ p < E ∧ q < E ∧ A < E ∧ E < X ∧ X < wg.heap.size) := by
      have h1 := HP.out; have h2 := HA.out; have h3 := HE.out; have h4 := hR.top.lt; have h5 := hR.row.lt; have h6 := HI.out.cnt.lt; have h7 := HX.out; have h8 := BX.out.lt
      exact ⟨by omega, by omega, by omega, by omega, by omega, by omega, by omega, by omega⟩
    have D1' : Hid (Blk wg L [.slice a0 zs.length c0] 35) := D1.out.fr FWG.out (by have := HPX.out; simp; omega)
    have D2' : Hid (Blk wg (L + 1) [.int .i64 n] 3) := D2.out.fr FWG.out (by have := HPX.out; simp; omega)
    have D3' : Hid (Blk wg (L + 1 + 1) [.bool false] 4) := D3.out.fr FWG.out (by have := HPX.out; simp; omega)
    have hml : M.length = m := by rw [hM, List.length_drop, List.length_take]; omega
    have hmk : k + m = N := by omega
    have hm40 : m ≤ 40 := by omega
    have HMG : Hid (∀ j y, M[j]? = some y → zs[k + j]? = some y) := Lib.hid (by
      intro j y hj
      rw [hM, List.getElem?_drop, List.getElem?_take] at hj
      split at hj
      · exact hj
      · cases hj)
    clear hth hR hM hm hk HI BE D1 D2 D3 FX
    obtain ⟨t63, ht63⟩ : ∃ t : Nat, (t : Int) = n % 64 := ⟨(n % 64).toNat, by omega⟩
    have hb63 : bits .and .i64 n 63 = (t63 : Int) := by rw [ht63]; exact and63 n
    have ht64 : t63 < 64 := by omega
    clear ht63
    go_wp2_with fail
    refine' wp_range (w0 := wg) (St := [E, L + 1 + 1]) rfl (enters_of Try.func80 (by kernel_rfl) rfl)
      (all_stops p q 40 fr m X wg.heap.size [E, L + 1 + 1] cs wg HRG.out BX.out ⟨HRG.out.top.lt, by have := HPX.out; simp; omega⟩ ⟨HRG.out.row.lt, by have := HPX.out; simp; omega⟩ ⟨BX.out.lt, by have := HPX.out; simp; omega⟩)
      (Below.refl _ _) (fun _ => rfl)
      (fun pre W => (pre <+: M ∧ pre.length ≤ t63) ∧ Fr [E] wg W ∧ Blk W E [.int .i64 pre.length] 3)
      (fun c pre W => (c = .ret ∧ ¬ pre <+: M) ∨ (c = .exit 2 ∧ pre <+: M ∧ pre.length = t63 + 1 ∧ Fr [E] wg W ∧ Blk W E [.int .i64 pre.length] 3))
      (fun s W W' h hk => ⟨h.1, h.2.1.kept hk (Nat.le_refl _) (by simp), h.2.2.kept hk (by have := HPX.out; omega) (by simp)⟩)
      (fun c s W W' h hk => by
        rcases h with h | ⟨h1, h2, h3, h4, h5⟩
        · exact .inl h
        · exact .inr ⟨h1, h2, h3, h4.kept hk (Nat.le_refl _) (by simp), h5.kept hk (by have := HPX.out; omega) (by simp)⟩)
      ⟨⟨List.nil_prefix, Nat.zero_le _⟩, Fr.refl _ _, BE'.out⟩ _ ?assign ?body ?done ?stop
    case assign =>
      intro l x W K hK
      gi_wp2
      exact hK
    case body =>
      rintro l pre x W ⟨⟨hpre, hpl⟩, hF, hB⟩ hlt
      obtain ⟨j, hj⟩ : ∃ j, j = pre.length := ⟨_, rfl⟩
      rw [← hj] at hB hpl hlt
      have hjM : j < M.length := by omega
      obtain ⟨y, hy⟩ : ∃ y, M[j]? = some y := ⟨M[j]'hjM, List.getElem?_eq_getElem _⟩
      obtain ⟨b1, o1, rfl, hrd⟩ := HRD.out _ _ (HMG.out _ _ hy)
      have hcz := hrd [p, q, A, E] W ((FWG.out.wide (by simp)).same (hF.wide (by simp))) (by have := HPX.out; simp; omega)
      have hcA := (BA.out.fr hF (by have := HPX.out; simp; omega)).cell_at (o := 0) rfl
      have hcL := (D1'.out.fr hF (by have := HPX.out; simp; omega)).cell_at (o := 0) rfl
      have hcN := (D2'.out.fr hF (by have := HPX.out; simp; omega)).cell_at (o := 0) rfl
      have hcR := (D3'.out.fr hF (by have := HPX.out; simp; omega)).cell_at (o := 0) rfl
      have hfR := (D3'.out.fr hF (by have := HPX.out; simp; omega)).thawed 0
      have HR3 := Lib.hid (D3'.out.fr hF (by have := HPX.out; simp; omega))
      have hcE := hB.cell_at (o := 0) rfl
      have hfE := hB.thawed 0
      have hkj : k + j < zs.length := by omega
      have hk60 : k ≤ 60 := by omega
      have hge : decide (zs.length ≤ k + j) = false := decide_eq_false (by omega)
      have hcz' : W.cell? ⟨b1, o1 + (k + j), none⟩ = some (.int .i64 y) := hcz
      have HPRE := Lib.hid hpre
      have HJ := Lib.hid hj
      have HF := Lib.hid hF
      have HB := Lib.hid hB
      have HY := Lib.hid hy
      clear hcz hpre hj hF hB hy hrd
      have hne1 : ¬ L + 1 = E := by have := HPX.out; omega
      have FIN : Hid (x = y → pre ++ [x] <+: M) := Lib.hid (fun e => by
        rw [e, List.prefix_iff_eq_take, List.length_append, List.length_singleton, ← HJ.out, List.take_add_one, HY.out]
        have h := List.prefix_iff_eq_take.1 HPRE.out
        rw [← HJ.out] at h
        rw [← h]; rfl)
      have FOUT : Hid (x ≠ y → ¬ pre ++ [x] <+: M) := Lib.hid (fun e h => by
        obtain ⟨r, hr⟩ := h
        have h2 := HY.out
        rw [← hr, HJ.out] at h2
        simp at h2
        exact e h2)
      have HFE : Hid (Fr [E] W (W.setCell ⟨E, 0, none⟩ (.int .i64 ((j : Int) + 1)))) := (Fr.refl _ _).set (by simp) _
      have HBE : Hid (Blk (W.setCell ⟨E, 0, none⟩ (.int .i64 ((j : Int) + 1))) E [.int .i64 (pre ++ [x]).length] 3) := by
        have h := HB.out.set 0 (.int .i64 ((j : Int) + 1))
        rw [List.length_append, List.length_singleton, ← HJ.out]
        exact h
      have HLN : Hid ((pre ++ [x]).length = j + 1) := by rw [List.length_append, List.length_singleton, ← HJ.out]; exact Lib.hid rfl
      by_cases hxy : x = y
      · have HP1 := Lib.hid (FIN.out hxy)
        subst hxy
        clear FIN FOUT
        by_cases hgt : t63 < j + 1
        · have hd1 : decide ((t63 : Int) < (j : Int) + 1) = true := decide_eq_true (by omega)
          gi_wp2
          exact ⟨KeepsOthers.setCell _ _ _, .inr ⟨rfl, HP1.out, by rw [HLN.out]; omega, HF.out.same HFE.out, HBE.out⟩⟩
        · have hd1 : decide ((t63 : Int) < (j : Int) + 1) = false := decide_eq_false (by omega)
          gi_wp2
          exact ⟨KeepsOthers.setCell _ _ _, Kept.of_fr (HFE.out.wide (by simp)), ⟨HP1.out, by rw [HLN.out]; omega⟩, HF.out.same HFE.out, HBE.out⟩
      · have hxy' : (x != y) = true := by rw [bne_iff_ne]; exact hxy
        have HNP := Lib.hid (FOUT.out hxy)
        clear hxy FIN FOUT
        gi_wp2
        exact ⟨KeepsOthers.setCell _ _ _, .inl ⟨rfl, HNP.out⟩⟩
    case done =>
      rintro D xs W hD hxs ⟨⟨hpre, hpl⟩, hF, hB⟩ hK
      rw [hxs, HTH.out] at hpl hB
      rw [hml] at hpl hB
      obtain ⟨a, ha⟩ : ∃ a, a = min (t63 + 1) m := ⟨_, rfl⟩
      rw [show m = a by omega] at hB
      have cR := (Lib.hid (HRG.out.fr hF (by have := HPX.out; simp; omega) (by have := HPX.out; simp; omega)))
      have cN := (D2'.out.fr hF (by have := HPX.out; simp; omega)).cell_at (o := 0) rfl
      have CT := (Lib.hid (D3'.out.fr hF (by have := HPX.out; simp; omega)))
      have cE := hB.cell_at (o := 0) rfl
      have cP := cR.out.top.cell_at (o := 2) rfl
      have HK := Lib.hid hK
      have HF := Lib.hid hF
      have HB := Lib.hid hB
      have HDL : Hid (wg.heap.size ≤ D ∧ D < W.heap.size) := ⟨hD, (Array.getElem?_eq_some_iff.1 hK).1⟩
      have HAM := Lib.hid ha
      have ha2 : a ≤ 64 := by omega
      clear hK hF hB ha hD
      go_wp2_with (first | (go_at_call 43; refine (pop_none 0 none _ (.inl rfl)).mono ?_; rintro e w' ⟨rfl, rfl⟩))
      have HT0 : Hid (Tail wg p q E L D fr m a cs n W) := ⟨⟨false, CT.out⟩, HB.out, D2'.out.fr HF.out (by have := HPX.out; simp; omega), cR.out, HK.out, HF.out.wide (by simp), by have := HPX.out; omega⟩
      have hwr : IntKind.i64.wrap ((t63 : Int) + 1) = (t63 : Int) + 1 := IntWalk.i64_in _ (by omega)
      have him : imin ((t63 : Int) + 1) (m : Int) = (a : Int) := by rw [imin_eq, HAM.out]; omega
      have hne1 : ¬ L + 1 = E := by have := HPX.out; omega
      clear cN cE cP
      go_region_held3 (fun V => Hid (Tail wg p q E L D fr m a cs n V) ∧ V.cell? ⟨E, 0, none⟩ = some (.int .i64 a) ∧ V.cell? ⟨L + 1, 0, none⟩ = some (.int .i64 n) ∧ V.cell? ⟨p, 2, none⟩ = some (.int .i64 m) ∧ V.cell? ⟨L + 1 + 1, 0, none⟩ = some (cv V ⟨L + 1 + 1, 0, none⟩) ∧ V.frozen? ⟨L + 1 + 1, 0, none⟩ = false)
        (first | assumption | exact (HT0.out.fr0 (Fr.refl _ _).drew).all | exact (Tail.set (Hid.out (And.left ‹Hid (Tail wg p q E L D fr m a cs n _) ∧ _›)) _).all)
        (first | (go_at_call 50; refine (awake_any _).mono ?_; rintro e w' ⟨rfl, hF'⟩; have hS' := (Tail.fr0 (Hid.out (And.left ‹Hid (Tail wg p q E L D fr m a cs n _) ∧ _›)) hF').all) | (go_at_call 46; first | (refine (len_any p m _ (by exact (Hid.out (And.left ‹Hid (Tail wg p q E L D fr m a cs n _) ∧ _›)).ring.top.cell_at rfl)).mono ?_; rintro e w' ⟨rfl, rfl⟩) | (refine (len_nil _).mono ?_; rintro e w' ⟨rfl, rfl⟩)) | (go_at_call 42; refine (push_nil _ _).mono ?_; rintro e w' ⟨rfl, rfl⟩) | (go_at_call 47; refine (full_nil _).mono ?_; rintro e w' ⟨rfl, rfl⟩) | (go_at_call 48; refine (room_nil _).mono ?_; rintro e w' ⟨rfl, rfl⟩) | (go_at_call 51; refine (clear_nil _).mono ?_; rintro e w' ⟨rfl, rfl⟩))
      have hT0 := hS'.1.out
      obtain ⟨u, hu⟩ := hT0.res
      have hT := hT0.set true
      have hB2 := hu.set 0 (.bool true)
      have hFin : Fr [] w (w'.setCell ⟨L + 1 + 1, 0, none⟩ (.bool true)) := (FW.out.trans FWG.out (fun x hx => by have := HPX.out; have := HL.out; simp at hx; right; omega)).trans hT.fr (fun x hx => by have := HPX.out; have := HL.out; simp at hx; right; omega)
      have hDw : w.heap.size ≤ D := by have h1 := HDL.out; have h2 := FW.out.size; have h3 := FWG.out.size; omega
      have hwz : (IntKind.i64.wrap (IntKind.i64.wrap 0) == 0) = true := by decide
      clear hT0 hu hS' HT0
      go_wp2
      rw [hwz]
      refine leaves_loop hT.mark (v := .bool true) ?_ ⟨rfl, hFin.taken hDw _⟩
      have hc := (hB2.taken hT.mark (.deferred none)).cell_at (o := 0) rfl
      simp [results, Try.f10, go_sem, hc]
    case stop =>
      rintro D c pre W hD hSp (⟨rfl, hnp⟩ | ⟨rfl, hp1, hp2, hF, hB⟩) hK
      · rw [HTH.out] at hSp
        exact absurd hSp hnp
      · have hle := hp1.length_le
        rw [hml] at hle
        obtain ⟨a, ha⟩ : ∃ a, a = min (t63 + 1) m := ⟨_, rfl⟩
        rw [show pre.length = a by omega] at hB
        have cR := (Lib.hid (HRG.out.fr hF (by have := HPX.out; simp; omega) (by have := HPX.out; simp; omega)))
        have cN := (D2'.out.fr hF (by have := HPX.out; simp; omega)).cell_at (o := 0) rfl
        have CT := (Lib.hid (D3'.out.fr hF (by have := HPX.out; simp; omega)))
        have cE := hB.cell_at (o := 0) rfl
        have cP := cR.out.top.cell_at (o := 2) rfl
        have HK := Lib.hid hK
        have HF := Lib.hid hF
        have HB := Lib.hid hB
        have HDL : Hid (wg.heap.size ≤ D ∧ D < W.heap.size) := ⟨hD, (Array.getElem?_eq_some_iff.1 hK).1⟩
        have HAM := Lib.hid ha
        have ha2 : a ≤ 64 := by omega
        clear hK hF hB ha hD
        go_wp2_with (first | (go_at_call 43; refine (pop_none 0 none _ (.inl rfl)).mono ?_; rintro e w' ⟨rfl, rfl⟩))
        have HT0 : Hid (Tail wg p q E L D fr m a cs n W) := ⟨⟨false, CT.out⟩, HB.out, D2'.out.fr HF.out (by have := HPX.out; simp; omega), cR.out, HK.out, HF.out.wide (by simp), by have := HPX.out; omega⟩
        have hwr : IntKind.i64.wrap ((t63 : Int) + 1) = (t63 : Int) + 1 := IntWalk.i64_in _ (by omega)
        have him : imin ((t63 : Int) + 1) (m : Int) = (a : Int) := by rw [imin_eq, HAM.out]; omega
        have hne1 : ¬ L + 1 = E := by have := HPX.out; omega
        clear cN cE cP
        go_region_held3 (fun V => Hid (Tail wg p q E L D fr m a cs n V) ∧ V.cell? ⟨E, 0, none⟩ = some (.int .i64 a) ∧ V.cell? ⟨L + 1, 0, none⟩ = some (.int .i64 n) ∧ V.cell? ⟨p, 2, none⟩ = some (.int .i64 m) ∧ V.cell? ⟨L + 1 + 1, 0, none⟩ = some (cv V ⟨L + 1 + 1, 0, none⟩) ∧ V.frozen? ⟨L + 1 + 1, 0, none⟩ = false)
          (first | assumption | exact (HT0.out.fr0 (Fr.refl _ _).drew).all | exact (Tail.set (Hid.out (And.left ‹Hid (Tail wg p q E L D fr m a cs n _) ∧ _›)) _).all)
          (first | (go_at_call 50; refine (awake_any _).mono ?_; rintro e w' ⟨rfl, hF'⟩; have hS' := (Tail.fr0 (Hid.out (And.left ‹Hid (Tail wg p q E L D fr m a cs n _) ∧ _›)) hF').all) | (go_at_call 46; first | (refine (len_any p m _ (by exact (Hid.out (And.left ‹Hid (Tail wg p q E L D fr m a cs n _) ∧ _›)).ring.top.cell_at rfl)).mono ?_; rintro e w' ⟨rfl, rfl⟩) | (refine (len_nil _).mono ?_; rintro e w' ⟨rfl, rfl⟩)) | (go_at_call 42; refine (push_nil _ _).mono ?_; rintro e w' ⟨rfl, rfl⟩) | (go_at_call 47; refine (full_nil _).mono ?_; rintro e w' ⟨rfl, rfl⟩) | (go_at_call 48; refine (room_nil _).mono ?_; rintro e w' ⟨rfl, rfl⟩) | (go_at_call 51; refine (clear_nil _).mono ?_; rintro e w' ⟨rfl, rfl⟩))
        have hT0 := hS'.1.out
        obtain ⟨u, hu⟩ := hT0.res
        have hT := hT0.set true
        have hB2 := hu.set 0 (.bool true)
        have hFin : Fr [] w (w'.setCell ⟨L + 1 + 1, 0, none⟩ (.bool true)) := (FW.out.trans FWG.out (fun x hx => by have := HPX.out; have := HL.out; simp at hx; right; omega)).trans hT.fr (fun x hx => by have := HPX.out; have := HL.out; simp at hx; right; omega)
        have hDw : w.heap.size ≤ D := by have h1 := HDL.out; have h2 := FW.out.size; have h3 := FWG.out.size; omega
        have hwz : (IntKind.i64.wrap (IntKind.i64.wrap 0) == 0) = true := by decide
        clear hT0 hu hS' HT0
        go_wp2
        rw [hwz]
        refine leaves_loop hT.mark (v := .bool true) ?_ ⟨rfl, hFin.taken hDw _⟩
        have hc := (hB2.taken hT.mark (.deferred none)).cell_at (o := 0) rfl
        simp [results, Try.f10, go_sem, hc]
end Go.Proofs.Ytcnoaflojojfkaa.FifoTells
