/- PersTells: all things are told, the newest first; without the newest it is the chain ahead: the walk of the law. No condition. -/
import Derived.Test.YtcnoaflojojfkaaPersStays
import Derived.Test.YtcnoaflojojfkaaRangeBlock
import Derived.Test.YtcnoaflojojfkaaBits
import Derived.Test.YtcnoaflojojfkaaPlan
namespace Go.Proofs.Ytcnoaflojojfkaa.Pers
open Go.RowKit Go.Shelf
set_option linter.unusedVariables false
set_option linter.unusedSimpArgs false
set_option maxRecDepth 100000
attribute [local go_sem] Oper.semAt_some

theorem rest_nil (w : World) : Calls Try.prog 40 #[.pointer none] w fun e w' => e = .returned (.pointer none) ∧ w = w' := by
  refine (rest_any 0 0 [] none w rfl).mono ?_
  rintro e w' ⟨⟨q, he, hq⟩, hw⟩
  have : q = none := hq
  subst this
  exact ⟨he, hw⟩
/-- the value of a cell that is there -/
def cv (V : World) (a : Addr) : Value := (V.cell? a).getD undef
theorem cv_of {V : World} {a : Addr} {v : Value} (h : V.cell? a = some v) : V.cell? a = some (cv V a) := by unfold cv; rw [h]; rfl
/-- what holds in the region that tells the result -/
structure Tail (w : World) (L E5 E7 D lo hi : Nat) (n : Int) (a : Nat) (al : Option Addr) (kx cl : Nat) (ys : List Int) (p : Option Addr) (V : World) : Prop where
  res : ∃ u, Blk V (L + 1) [.bool u] 4
  num : Blk V L [.int .i64 n] 3
  xs : Blk V E5 [.slice al kx cl] 35
  cnt : Blk V E7 [.int .i64 a] 3
  mark : V.heap[D]? = some (.deferred (some []))
  ch : IsCh lo hi V ys p
  fr : Fr [] w V
  ord : w.heap.size ≤ L ∧ L + 1 < E5 ∧ E5 < E7 ∧ L + 1 < lo ∧ D ≠ L + 1 ∧ hi ≤ V.heap.size
theorem Tail.fr0 {w : World} {L E5 E7 D lo hi : Nat} {n : Int} {a : Nat} {al : Option Addr} {kx cl : Nat} {ys : List Int} {p : Option Addr} {V V' : World} (h : Tail w L E5 E7 D lo hi n a al kx cl ys p V) (hf : Fr [] V V') : Tail w L E5 E7 D lo hi n a al kx cl ys p V' :=
  ⟨by obtain ⟨u, hu⟩ := h.res; exact ⟨u, hu.fr hf (by simp)⟩, h.num.fr hf (by simp), h.xs.fr hf (by simp), h.cnt.fr hf (by simp), (hf.block D (Array.getElem?_eq_some_iff.1 h.mark).1 (by simp)).trans h.mark, h.ch.fr0 hf, h.fr.trans0 hf,
    by obtain ⟨h1, h2, h3, h4, h5, h6⟩ := h.ord; exact ⟨h1, h2, h3, h4, h5, Nat.le_trans h6 hf.size⟩⟩
theorem Tail.set {w : World} {L E5 E7 D lo hi : Nat} {n : Int} {a : Nat} {al : Option Addr} {kx cl : Nat} {ys : List Int} {p : Option Addr} {V : World} (h : Tail w L E5 E7 D lo hi n a al kx cl ys p V) (b : Bool) : Tail w L E5 E7 D lo hi n a al kx cl ys p (V.setCell ⟨L + 1, 0, none⟩ (.bool b)) := by
  obtain ⟨h1, h2, h3, h4, h5, h6⟩ := h.ord
  refine ⟨by obtain ⟨u, hu⟩ := h.res; exact ⟨b, hu.set 0 _⟩, h.num.set_ne (by simp) _, h.xs.set_ne (by simp; omega) _, h.cnt.set_ne (by simp; omega) _, (Below.heap_setCell _ _ _ _ (by simpa using h5)).trans h.mark, h.ch.keep (fun k hk _ _ => Below.heap_setCell _ _ _ _ (by simp; omega)), h.fr.set (.inr (by simp; omega)) _, h1, h2, h3, h4, h5, ?_⟩
  simp [World.setCell]; exact h6
theorem Tail.all {w : World} {L E5 E7 D lo hi : Nat} {n : Int} {a : Nat} {al : Option Addr} {kx cl : Nat} {ys : List Int} {p : Option Addr} {V : World} (h : Tail w L E5 E7 D lo hi n a al kx cl ys p V) :
    Hid (Tail w L E5 E7 D lo hi n a al kx cl ys p V) ∧ V.cell? ⟨E7, 0, none⟩ = some (.int .i64 a) ∧ V.cell? ⟨L, 0, none⟩ = some (.int .i64 n) ∧ V.cell? ⟨E5, 0, none⟩ = some (.slice al kx cl) ∧ V.cell? ⟨L + 1, 0, none⟩ = some (cv V ⟨L + 1, 0, none⟩) ∧ V.frozen? ⟨L + 1, 0, none⟩ = false :=
  ⟨h, h.cnt.cell_at rfl, h.num.cell_at rfl, h.xs.cell_at rfl, by obtain ⟨u, hu⟩ := h.res; exact cv_of (hu.cell_at rfl), by obtain ⟨u, hu⟩ := h.res; exact hu.thawed 0⟩

set_option maxHeartbeats 8000000 in
theorem tells_walk (zl : List Int) (vl : Value) {w : World} (hrl : Reads w 1 vl zl.length (zl.map (Value.int .i64))) (_wl : ∀ x ∈ zl, (Lit.int .i64 x).wf = true) (hll : zl.length * 8 ≤ 140737488351232) (n : Int) (_wn : (Lit.int .i64 n).wf = true) :
    Calls Try.prog 8 #[vl, .int .i64 n] w fun e w' => e = .returned (.bool true) ∧ Fr [] w w' := by
  obtain ⟨_, al, cl, rfl, hcl, _⟩ := id hrl
  have HL := Lib.hid hrl
  clear hrl _wl _wn
  obtain ⟨kx, hkx⟩ : ∃ kx, kx = min zl.length 20 := ⟨_, rfl⟩
  have him : imin (zl.length : Int) 20 = (kx : Int) := by rw [imin_eq]; omega
  have hk1 : kx ≤ cl := by omega
  have hk2 : kx ≤ 20 := by omega
  have HKX := Lib.hid hkx
  have RX : Hid (∀ W, Fr [] w W → Reads W 1 (.slice al kx cl) kx ((zl.take kx).map (Value.int .i64))) := Lib.hid (fun W hW => (HL.out.take1 kx (by omega)).fr0 hW)
  clear hkx
  obtain ⟨t31, ht31⟩ : ∃ t : Nat, (t : Int) = n % 32 := ⟨(n % 32).toNat, by omega⟩
  have hb31 : bits .and .i64 n 31 = (t31 : Int) := by rw [ht31]; exact and31 n
  have ht32 : t31 < 32 := by omega
  clear ht31
  refine calls_marks Try.func8 rfl ?_
  simp only [Try.ntmps8, List.size_toArray, List.length_cons, List.length_nil, Nat.reduceAdd, Nat.reduceSub, Array.replicate_succ, Array.replicate_zero, List.push_toArray, List.append_toArray, List.nil_append, List.cons_append]
  go_upto_region 1 with (fail)
  obtain ⟨B1, B2, F0⟩ := new2 w [.int .i64 n] 3 [.bool false] 4
  obtain ⟨wa, hwa⟩ : ∃ x : World, x = (w.alloc (.cells #[.int .i64 n] 3)).alloc (.cells #[.bool false] 4) := ⟨_, rfl⟩
  rw [← hwa]
  rw [← hwa] at B1 B2 F0
  obtain ⟨L, hL⟩ : ∃ L, L = w.heap.size := ⟨_, rfl⟩
  rw [← hL] at B1 B2 ⊢
  have HLw : Hid (w.heap.size ≤ L) := Lib.hid (by omega)
  have HB1 := Lib.hid B1
  have HB2 := Lib.hid B2
  have HF0 := Lib.hid F0
  clear hwa B1 B2 F0 hL
  go_upto_region 4 with (first | (go_at_call 32; refine (awake_any _).mono ?_; rintro e wb ⟨rfl, hf⟩; have HFb := Lib.hid hf; clear hf))
  obtain ⟨B5, F5⟩ := new1 wb [.slice al kx cl] 35
  obtain ⟨wc, hwc⟩ : ∃ x : World, x = wb.alloc (.cells #[.slice al kx cl] 35) := ⟨_, rfl⟩
  rw [← hwc]
  rw [← hwc] at B5 F5
  obtain ⟨E5, hE5⟩ : ∃ E5, E5 = wb.heap.size := ⟨_, rfl⟩
  rw [← hE5] at B5 ⊢
  have HE5 : Hid (L + 1 < E5 ∧ E5 < wc.heap.size) := ⟨by have := HB2.out.lt; have := HFb.out.size; omega, B5.lt⟩
  have HFc := Lib.hid ((HF0.out.trans0 HFb.out).trans0 F5)
  have HB5 := Lib.hid B5
  have HB1c := Lib.hid ((HB1.out.fr HFb.out (by simp)).fr F5 (by simp))
  have HB2c := Lib.hid ((HB2.out.fr HFb.out (by simp)).fr F5 (by simp))
  have c5 := B5.cell_at (o := 0) rfl
  clear hwc hE5 B5 F5 HB1 HB2 HFb HF0
  go_wp2_with fail
  refine (of_any _ (zl.take kx) _ (by have h := RX.out _ HFc.out; rw [List.length_take, show min kx zl.length = kx by have := HKX.out; omega]; exact h) (by rw [List.length_take]; omega)).mono ?_
  rintro e wd ⟨⟨p, rfl, hc⟩, hf⟩
  have HC : Hid (IsCh wc.heap.size wd.heap.size wd (zl.take kx).reverse p) := hc
  have HFd := Lib.hid hf
  clear hc hf c5
  go_upto_region 6 with (fail)
  obtain ⟨B7, F7⟩ := new1 wd [.int .i64 0] 3
  obtain ⟨we, hwe⟩ : ∃ x : World, x = wd.alloc (.cells #[.int .i64 0] 3) := ⟨_, rfl⟩
  rw [← hwe]
  rw [← hwe] at B7 F7
  obtain ⟨E7, hE7⟩ : ∃ E7, E7 = wd.heap.size := ⟨_, rfl⟩
  rw [← hE7] at B7 ⊢
  have HE7 : Hid (E5 < wc.heap.size ∧ wc.heap.size ≤ E7 ∧ wd.heap.size ≤ E7 ∧ E7 < we.heap.size) := ⟨HE5.out.2, by have := HFd.out.size; omega, by omega, B7.lt⟩
  have HFe := Lib.hid (HFd.out.trans0 F7)
  have HCe : Hid (IsCh wc.heap.size E7 we (zl.take kx).reverse p) := (HC.out.fr0 F7).wide (Nat.le_refl _) (by omega)
  have HB7 := Lib.hid B7
  clear hwe hE7 B7 F7 HC HFd
  go_wp2_with fail
  refine (back_any p we).mono ?_
  rintro e wg ⟨rfl, hwg⟩
  obtain ⟨X, hX⟩ : ∃ X, X = we.heap.size := ⟨_, rfl⟩
  rw [← hX]
  have FG : Hid (Fr [] we wg) := by rw [hwg]; exact (Fr.refl _ _).alloc _
  have BX : Hid (Blk wg X [.pointer p] 56) := by rw [hwg, hX]; exact Blk.new we _ _
  have HXL : Hid (E7 < X ∧ X < wg.heap.size) := ⟨by rw [hX]; exact HB7.out.lt, BX.out.lt⟩
  have HFG : Hid (Fr [] wc wg) := HFe.out.trans0 FG.out
  have HWG : Hid (Fr [] w wg) := HFc.out.trans0 HFG.out
  have C7 : Hid (Blk wg E7 [.int .i64 0] 3) := HB7.out.fr FG.out (by simp)
  have C5 : Hid (Blk wg E5 [.slice al kx cl] 35) := HB5.out.fr HFG.out (by simp)
  have C1 : Hid (Blk wg L [.int .i64 n] 3) := HB1c.out.fr HFG.out (by simp)
  have C2 : Hid (Blk wg (L + 1) [.bool false] 4) := HB2c.out.fr HFG.out (by simp)
  have HCg : Hid (IsCh wc.heap.size E7 wg (zl.take kx).reverse p) := HCe.out.fr0 FG.out
  have ly : Hid ((zl.take kx).reverse.length = kx) := Lib.hid (by rw [List.length_reverse, List.length_take]; have := HKX.out; omega)
  obtain ⟨M, hM⟩ : ∃ M, M = (zl.take kx).reverse := ⟨_, rfl⟩
  rw [← hM] at HCg ly
  have HMz : Hid (∀ j y, M[j]? = some y → zl[kx - 1 - j]? = some y) := Lib.hid (by
    intro j y hj
    have hjl : j < M.length := (List.getElem?_eq_some_iff.1 hj).1
    rw [ly.out] at hjl
    rw [hM, List.getElem?_reverse (by rw [List.length_take]; have := HKX.out; omega), List.length_take, show min kx zl.length = kx by have := HKX.out; omega, List.getElem?_take] at hj
    split at hj
    · exact hj
    · cases hj)
  have HM := Lib.hid hM
  clear hwg hX hM HB7 HB5 HB1c HB2c FG HCe HFe
  have HO : Hid (L + 1 < E5 ∧ E5 < wc.heap.size ∧ wc.heap.size ≤ E7 ∧ E7 < X ∧ X < wg.heap.size) := ⟨HE5.out.1, HE5.out.2, HE7.out.2.1, HXL.out.1, HXL.out.2⟩
  go_upto_block 0 with (fail)
  refine' wp_range_block (w0 := wg) (St := [E7, L + 1]) rfl (enters_of Try.func79 (by kernel_rfl) rfl)
    (back_stops wc.heap.size E7 X wg.heap.size [E7, L + 1] M p wg HCg.out BX.out (by have := HO.out; omega) (by have := HO.out; simp; omega) ⟨HO.out.2.2.2.2, by have := HO.out; simp; omega⟩)
    (Below.refl _ _) (fun _ => rfl)
    (fun pre W => (pre <+: M ∧ pre.length ≤ t31) ∧ Fr [E7] wg W ∧ Blk W E7 [.int .i64 pre.length] 3)
    (fun c pre W => (c = .ret ∧ ¬ pre <+: M) ∨ (c = .exit 0 ∧ pre <+: M ∧ pre.length = t31 + 1 ∧ Fr [E7] wg W ∧ Blk W E7 [.int .i64 pre.length] 3))
    (fun s W W' h hk => ⟨h.1, h.2.1.kept hk (Nat.le_refl _) (by simp), h.2.2.kept hk (by have := HO.out; omega) (by simp)⟩)
    (fun c s W W' h hk => by
      rcases h with h | ⟨h1, h2, h3, h4, h5⟩
      · exact .inl h
      · exact .inr ⟨h1, h2, h3, h4.kept hk (Nat.le_refl _) (by simp), h5.kept hk (by have := HO.out; omega) (by simp)⟩)
    (fun D W => wg.heap.size ≤ D ∧ Fr [E7] wg W ∧ Blk W E7 [.int .i64 (min (t31 + 1) kx : Nat)] 3 ∧ W.heap[D]? = some (.deferred (some [])))
    ⟨⟨List.nil_prefix, Nat.zero_le _⟩, Fr.refl _ _, C7.out⟩ _ ?assign ?body ?done ?stop ?tail
  case assign =>
    intro l x W K hK
    gi_wp2
    exact hK
  case body =>
    rintro l pre x W ⟨⟨hpre, hpl⟩, hF, hB⟩ hlt
    obtain ⟨j, hj⟩ : ∃ j, j = pre.length := ⟨_, rfl⟩
    rw [← hj] at hB hpl hlt
    obtain ⟨y, hy⟩ : ∃ y, M[j]? = some y := ⟨M[j]'hlt, List.getElem?_eq_getElem _⟩
    rw [ly.out] at hlt
    obtain ⟨q, hq⟩ : ∃ q, kx - 1 - j = q := ⟨_, rfl⟩
    have hzq := HMz.out _ _ hy
    rw [hq] at hzq
    have hqk : (zl.take kx)[q]? = some y := by rw [List.getElem?_take, if_pos (by omega)]; exact hzq
    obtain ⟨b1, o1, c1, e1, _, hcz⟩ := at_reads (RX.out _ (HWG.out.trans hF (by have := HO.out; have := HLw.out; simp; omega))) hqk
    simp only [Value.slice.injEq] at e1
    obtain ⟨rfl, _, rfl⟩ := e1
    have hc5 := (C5.out.fr hF (by have := HO.out; simp; omega)).cell_at (o := 0) rfl
    have hc1 := (C1.out.fr hF (by have := HO.out; simp; omega)).cell_at (o := 0) rfl
    have hc2 := (C2.out.fr hF (by have := HO.out; simp; omega)).cell_at (o := 0) rfl
    have hf2 := (C2.out.fr hF (by have := HO.out; simp; omega)).thawed 0
    have hcE := hB.cell_at (o := 0) rfl
    have hfE := hB.thawed 0
    have hge : decide (kx ≤ j) = false := decide_eq_false (by omega)
    have hge2 : decide ((kx : Int) ≤ (j : Int)) = false := decide_eq_false (by omega)
    have hix : IntKind.i64.wrap (IntKind.i64.wrap ((kx : Int) - 1) - (j : Int)) = (q : Int) := by
      have h1 : IntKind.i64.wrap ((kx : Int) - 1) = (kx : Int) - 1 := IntWalk.i64_in _ (by omega)
      rw [h1, IntWalk.i64_in _ (by omega)]; omega
    have hix2 : (kx : Int) - 1 - (j : Int) = (q : Int) := by omega
    have hqk2 : q < kx := by omega
    have HPRE := Lib.hid hpre
    have HJ := Lib.hid hj
    have HF := Lib.hid hF
    have HB := Lib.hid hB
    have HY := Lib.hid hy
    clear hpre hj hF hB hy hqk hzq hq
    have FIN : Hid (x = y → pre ++ [x] <+: M) := Lib.hid (fun e => by
      rw [e, List.prefix_iff_eq_take, List.length_append, List.length_singleton, ← HJ.out, List.take_add_one, HY.out]
      have h := List.prefix_iff_eq_take.1 HPRE.out
      rw [← HJ.out] at h
      rw [← h]; rfl)
    have FOUT : Hid (x ≠ y → ¬ pre ++ [x] <+: M) := Lib.hid (fun e h => by
      obtain ⟨r, hr⟩ := h
      have h2 := HY.out
      rw [← hr, HJ.out] at h2
      simp at h2
      exact e h2)
    have HFE : Hid (Fr [E7] W (W.setCell ⟨E7, 0, none⟩ (.int .i64 ((j : Int) + 1)))) := (Fr.refl _ _).set (by simp) _
    have HBE : Hid (Blk (W.setCell ⟨E7, 0, none⟩ (.int .i64 ((j : Int) + 1))) E7 [.int .i64 (pre ++ [x]).length] 3) := by
      have h := HB.out.set 0 (.int .i64 ((j : Int) + 1))
      rw [List.length_append, List.length_singleton, ← HJ.out]
      exact h
    have HLN : Hid ((pre ++ [x]).length = j + 1) := by rw [List.length_append, List.length_singleton, ← HJ.out]; exact Lib.hid rfl
    have hne1 : ¬ L = E7 := by have := HO.out; omega
    by_cases hxy : x = y
    · have HP1 := Lib.hid (FIN.out hxy)
      subst hxy
      clear FIN FOUT
      by_cases hgt : t31 < j + 1
      · have hd1 : decide ((t31 : Int) < (j : Int) + 1) = true := decide_eq_true (by omega)
        gi_wp2
        exact ⟨KeepsOthers.setCell _ _ _, .inr ⟨rfl, HP1.out, by rw [HLN.out]; omega, HF.out.same HFE.out, HBE.out⟩⟩
      · have hd1 : decide ((t31 : Int) < (j : Int) + 1) = false := decide_eq_false (by omega)
        gi_wp2
        exact ⟨KeepsOthers.setCell _ _ _, Kept.of_fr (HFE.out.wide (by simp)), ⟨HP1.out, by rw [HLN.out]; omega⟩, HF.out.same HFE.out, HBE.out⟩
    · have hxy' : (x != y) = true := by rw [bne_iff_ne]; exact hxy
      have HNP := Lib.hid (FOUT.out hxy)
      clear hxy FIN FOUT
      gi_wp2
      exact ⟨KeepsOthers.setCell _ _ _, .inl ⟨rfl, HNP.out⟩⟩
  case done =>
    rintro D ys W hD rfl ⟨⟨hpre, hpl⟩, hF, hB⟩ hK
    rw [ly.out] at hpl hB
    rw [show kx = min (t31 + 1) kx by omega] at hB
    exact ⟨hD, hF, hB, hK⟩
  case stop =>
    rintro D c pre W hD hSp (⟨rfl, hnp⟩ | ⟨rfl, hp1, hp2, hF, hB⟩) hK
    · exact absurd hSp hnp
    · have hle := hp1.length_le
      rw [ly.out] at hle
      rw [show pre.length = min (t31 + 1) kx by omega] at hB
      exact ⟨rfl, hD, hF, hB, hK⟩
  case tail =>
    rintro D W ⟨hD, hF, hB, hK⟩
    obtain ⟨a, ha⟩ : ∃ a, a = min (t31 + 1) kx := ⟨_, rfl⟩
    rw [← ha] at hB
    have him2 : imin ((t31 : Int) + 1) (kx : Int) = (a : Int) := by rw [imin_eq]; omega
    have ha2 : a ≤ 32 := by omega
    have HW : Hid (Fr [] w W) := HWG.out.trans hF (by have := HO.out; have := HLw.out; simp; omega)
    have HT : Hid (Tail w L E5 E7 D wc.heap.size E7 n a al kx cl M p W) := ⟨⟨false, C2.out.fr hF (by have := HO.out; simp; omega)⟩, C1.out.fr hF (by have := HO.out; simp; omega), C5.out.fr hF (by have := HO.out; simp; omega), hB, hK,
      HCg.out.keep (fun k h1 h2 h3 => hF.block k h3 (by simp; omega)), HW.out, HLw.out, HO.out.1, by have := HO.out; omega, by have := HO.out; omega, by have := HO.out; omega, by have := hF.size; have := HO.out; omega⟩
    obtain ⟨m, hm⟩ : ∃ m, m = kx - 1 := ⟨_, rfl⟩
    obtain ⟨mm, hmm⟩ : ∃ mm : Int, mm = (kx : Int) - 1 := ⟨_, rfl⟩
    have hw1 : IntKind.i64.wrap ((kx : Int) - 1) = mm := by rw [hmm]; exact IntWalk.i64_in _ (by omega)
    have hmx : imax mm 0 = (m : Int) := by rw [imax_eq]; omega
    have hm1 : (0 : Int) ≤ (m : Int) := by omega
    have hm2 : (m : Int) ≤ (cl : Int) := by omega
    have hm3 : m ≤ 20 := by omega
    have hwt : IntKind.i64.wrap ((t31 : Int) + 1) = (t31 : Int) + 1 := IntWalk.i64_in _ (by omega)
    have HTL : Hid (M.tail.reverse = zl.take m) := Lib.hid (by rw [HM.out, List.tail_reverse, List.reverse_reverse, List.dropLast_eq_take, List.length_take, List.take_take, hm]; congr 1; have := HKX.out; omega)
    have HTN : Hid (M.tail.length = m) := Lib.hid (by rw [List.length_tail, ly.out, hm])
    have HM1 := Lib.hid hm
    have hne1 : ¬ L = E7 := by have := HO.out; omega
    have RM : Hid (∀ V, Fr [] w V → Reads V 1 (.slice al m cl) m ((zl.take m).map (Value.int .i64))) := Lib.hid (fun V hV => (HL.out.take1 m (by have := HKX.out; omega)).fr0 hV)
    have HAM := Lib.hid ha
    have HDD := Lib.hid hD
    have HMM := Lib.hid hmm
    clear hF hB hK hD hm ha hmm
    by_cases hk0 : 0 < kx
    · obtain ⟨y, r, hyr⟩ : ∃ y r, M = y :: r := by
        cases hMM : M with
        | nil => have h := ly.out; rw [hMM] at h; simp at h; omega
        | cons y r => exact ⟨y, r, rfl⟩
      have hzy := HMz.out 0 y (by rw [hyr]; rfl)
      have hmy : (zl.take kx)[m]? = some y := by rw [List.getElem?_take, if_pos (by have := HM1.out; omega), HM1.out]; exact hzy
      obtain ⟨b1, o1, c1, e1, _, _⟩ := at_reads (RX.out _ (Fr.refl [] w)) hmy
      simp only [Value.slice.injEq] at e1
      obtain ⟨rfl, _, rfl⟩ := e1
      have HXC : Hid (∀ V, Fr [] w V → V.cell? ⟨b1, o1 + m, none⟩ = some (.int .i64 y)) := Lib.hid (fun V hV => by
        obtain ⟨b2, o2, c2, e2, _, h2⟩ := at_reads (RX.out V hV) hmy
        simp only [Value.slice.injEq, Option.some.injEq, Addr.mk.injEq, and_true] at e2
        obtain ⟨⟨rfl, rfl⟩, _⟩ := e2
        exact h2)
      have HNW : Hid (Calls Try.prog 39 #[.pointer p] W fun e w' => e = .returned (.tuple #[.int .i64 y, .bool true]) ∧ W = w') := Lib.hid (newest_some _ _ y r p W (by have h := HT.out.ch; rw [hyr] at h; exact h))
      have hmk : (m : Int) < (kx : Int) := by have := HM1.out; omega
      have hmmm : mm = (m : Int) := by have := HM1.out; have := HMM.out; omega
      rw [hmmm] at hw1 hmx
      clear hmmm
      have HK0 := Lib.hid hk0
      have hd0 : decide (0 < kx) = true := decide_eq_true hk0
      have hd0i : decide ((0 : Int) < (kx : Int)) = true := decide_eq_true (by omega)
      clear hzy hmy hyr hk0
      go_wp2_with fail
      refine HNW.out.mono ?_
      rintro e w' ⟨rfl, rfl⟩
      go_wp2_with fail
      refine (newest_none _).mono ?_
      rintro e w' ⟨rfl, rfl⟩
      go_upto_region 15 with (fail)
      simp only [List.append_eq, List.cons_append, List.nil_append]
      have hS0 : True := trivial
      have hS9 := (And.intro (Tail.all (Tail.fr0 HT.out (Fr.refl _ _).drew)) (HXC.out _ (Tail.fr (Tail.fr0 HT.out (Fr.refl _ _).drew))))
      refine wp_region_plan_np (fun V => (Hid (Tail w L E5 E7 D wc.heap.size E7 n a (some ⟨b1, o1, none⟩) kx cl M p V) ∧ V.cell? ⟨E7, 0, none⟩ = some (.int .i64 a) ∧ V.cell? ⟨L, 0, none⟩ = some (.int .i64 n) ∧ V.cell? ⟨E5, 0, none⟩ = some (.slice (some ⟨b1, o1, none⟩) kx cl) ∧ V.cell? ⟨L + 1, 0, none⟩ = some (cv V ⟨L + 1, 0, none⟩) ∧ V.frozen? ⟨L + 1, 0, none⟩ = false) ∧ V.cell? ⟨b1, o1 + m, none⟩ = some (.int .i64 y)) [(0, false), (1, true), (2, true), (3, true), (4, true), (5, true), (6, true), (7, true), (8, true), (9, true), (10, true), (11, true), (12, true), (13, true), (14, true), (15, true), (16, true), (17, true), (18, true), (19, true), (20, true), (21, true), (22, true), (23, true), (24, true), (25, true), (26, true), (27, true), (28, true), (29, true), (30, true), (31, true), (32, true), (33, true), (36, true), (37, true), (38, true), (39, true), (40, true), (41, true), (34, false), (35, false), (42, false), (43, true), (44, true), (45, true), (46, true), (47, true), (48, true), (49, true), (50, false), (51, true), (52, true), (53, true), (54, true), (55, false), (56, true), (57, true), (58, true), (59, true), (60, false), (61, true), (62, true), (63, true), (64, false)] (by kernel_rfl) (by kernel_rfl) hS9 ?_
      repeat (first | (refine hl_on (o := ?_) (v := ?_) ?_ ?_ (fun w hSw => ?_) ?_; rotate_left 2; (focus ((simp only [List.getElem?_toArray, List.getElem?_cons_succ, List.getElem?_cons_zero]); (try rfl); done)); (focus (rfl)); (focus ((try dsimp only at hSw); go_simp; (try with_reducible rfl); done)); simp only [Act.put, List.setIfInBounds_toArray, List.set_cons_zero, List.set_cons_succ]) | (refine hl_off_light (o := ?_) ?_ ?_ ?_; rotate_left 1; (focus ((simp only [List.getElem?_toArray, List.getElem?_cons_succ, List.getElem?_cons_zero]); (try rfl); done)); (focus (rfl)); simp only [Act.put, List.setIfInBounds_toArray, List.set_cons_zero, List.set_cons_succ]) | fail)
      have hTb := (Hid.out (And.left (And.left ‹(Hid (Tail w L E5 E7 D wc.heap.size E7 n a (some ⟨b1, o1, none⟩) kx cl M p _) ∧ _) ∧ _›)))
      have hT := hTb.set true
      obtain ⟨u, hu⟩ := hTb.res
      have hB2 := hu.set 0 (.bool true)
      refine hl_heavy (o := ?_) ?_ ?_ (fun K hK => ?_)
      rotate_left 1
      (focus ((simp only [List.getElem?_toArray, List.getElem?_cons_succ, List.getElem?_cons_zero]); (try rfl); done))
      focus (rfl)
      go_simp
      (first | (go_at_call 32; refine (awake_any _).mono ?_; rintro e w' ⟨rfl, hF_⟩; have hS' := (And.intro (Tail.all (Tail.fr0 (Hid.out (And.left (And.left ‹(Hid (Tail w L E5 E7 D wc.heap.size E7 n a (some ⟨b1, o1, none⟩) kx cl M p _) ∧ _) ∧ _›))) hF_)) (HXC.out _ (Tail.fr (Tail.fr0 (Hid.out (And.left (And.left ‹(Hid (Tail w L E5 E7 D wc.heap.size E7 n a (some ⟨b1, o1, none⟩) kx cl M p _) ∧ _) ∧ _›))) hF_)))); clear hF_) | (go_at_call 40; first | (with_reducible refine (rest_any _ _ M p _ (Tail.ch (Hid.out (And.left (And.left ‹(Hid (Tail w L E5 E7 D wc.heap.size E7 n a (some ⟨b1, o1, none⟩) kx cl M p _) ∧ _) ∧ _›))))).mono ?_; rintro e w' ⟨⟨q, rfl, hq⟩, rfl⟩; have HQ := Lib.hid hq; clear hq) | (refine (rest_nil _).mono ?_; rintro e w' ⟨rfl, rfl⟩)) | (go_at_call 36; first | (with_reducible refine (list_n _ _ M.tail q _ m HTN.out (Hid.out HQ) (Tail.ord (Hid.out (And.left (And.left ‹(Hid (Tail w L E5 E7 D wc.heap.size E7 n a (some ⟨b1, o1, none⟩) kx cl M p _) ∧ _) ∧ _›)))).2.2.2.2.2 (by omega)).mono ?_; rintro e w8 ⟨⟨g1, rfl, hb⟩, hF_⟩; have HR8 := Lib.hid hb; have hS' := (And.intro (Tail.all (Tail.fr0 (Hid.out (And.left (And.left ‹(Hid (Tail w L E5 E7 D wc.heap.size E7 n a (some ⟨b1, o1, none⟩) kx cl M p _) ∧ _) ∧ _›))) hF_)) (HXC.out _ (Tail.fr (Tail.fr0 (Hid.out (And.left (And.left ‹(Hid (Tail w L E5 E7 D wc.heap.size E7 n a (some ⟨b1, o1, none⟩) kx cl M p _) ∧ _) ∧ _›))) hF_)))); clear hF_ hb) | (refine (list_n 0 0 [] none _ 0 rfl rfl (Nat.zero_le _) (by omega)).mono ?_; rintro e w8 ⟨⟨g1, rfl, hb⟩, hF_⟩; have hS' := (And.intro (Tail.all (Tail.fr0 (Hid.out (And.left (And.left ‹(Hid (Tail w L E5 E7 D wc.heap.size E7 n a (some ⟨b1, o1, none⟩) kx cl M p _) ∧ _) ∧ _›))) hF_)) (HXC.out _ (Tail.fr (Tail.fr0 (Hid.out (And.left (And.left ‹(Hid (Tail w L E5 E7 D wc.heap.size E7 n a (some ⟨b1, o1, none⟩) kx cl M p _) ∧ _) ∧ _›))) hF_)))); clear hF_ hb)) | (go_at_call 35; refine (same_true _ _ _ _ _ m (Hid.out HR8) (RM.out _ (Tail.fr (Hid.out (And.left (And.left ‹(Hid (Tail w L E5 E7 D wc.heap.size E7 n a (some ⟨b1, o1, none⟩) kx cl M p _) ∧ _) ∧ _›))))) HTL.out (by omega)).mono ?_; rintro e w9 ⟨rfl, hF_⟩; have hS' := (And.intro (Tail.all (Tail.fr0 (Hid.out (And.left (And.left ‹(Hid (Tail w L E5 E7 D wc.heap.size E7 n a (some ⟨b1, o1, none⟩) kx cl M p _) ∧ _) ∧ _›))) hF_)) (HXC.out _ (Tail.fr (Tail.fr0 (Hid.out (And.left (And.left ‹(Hid (Tail w L E5 E7 D wc.heap.size E7 n a (some ⟨b1, o1, none⟩) kx cl M p _) ∧ _) ∧ _›))) hF_)))); clear hF_) | (go_at_call 37; refine (len_any 0 0 [] none _ rfl).mono ?_; rintro e w' ⟨rfl, rfl⟩))
      refine hK.out _ _ (by first | exact hS' | assumption) (fun hS' => ?_)
      try simp only [Act.put, List.setIfInBounds_toArray, List.set_cons_zero, List.set_cons_succ]
      repeat (first | (refine hl_on (o := ?_) (v := ?_) ?_ ?_ (fun w hSw => ?_) ?_; rotate_left 2; (focus ((simp only [List.getElem?_toArray, List.getElem?_cons_succ, List.getElem?_cons_zero]); (try rfl); done)); (focus (rfl)); (focus ((try dsimp only at hSw); go_simp; (try with_reducible rfl); done)); simp only [Act.put, List.setIfInBounds_toArray, List.set_cons_zero, List.set_cons_succ]) | (refine hl_off_light (o := ?_) ?_ ?_ ?_; rotate_left 1; (focus ((simp only [List.getElem?_toArray, List.getElem?_cons_succ, List.getElem?_cons_zero]); (try rfl); done)); (focus (rfl)); simp only [Act.put, List.setIfInBounds_toArray, List.set_cons_zero, List.set_cons_succ]) | fail)
      have hTb := (Hid.out (And.left (And.left ‹(Hid (Tail w L E5 E7 D wc.heap.size E7 n a (some ⟨b1, o1, none⟩) kx cl M p _) ∧ _) ∧ _›)))
      have hT := hTb.set true
      obtain ⟨u, hu⟩ := hTb.res
      have hB2 := hu.set 0 (.bool true)
      refine hl_heavy (o := ?_) ?_ ?_ (fun K hK => ?_)
      rotate_left 1
      (focus ((simp only [List.getElem?_toArray, List.getElem?_cons_succ, List.getElem?_cons_zero]); (try rfl); done))
      focus (rfl)
      go_simp
      (first | (go_at_call 32; refine (awake_any _).mono ?_; rintro e w' ⟨rfl, hF_⟩; have hS' := (And.intro (Tail.all (Tail.fr0 (Hid.out (And.left (And.left ‹(Hid (Tail w L E5 E7 D wc.heap.size E7 n a (some ⟨b1, o1, none⟩) kx cl M p _) ∧ _) ∧ _›))) hF_)) (HXC.out _ (Tail.fr (Tail.fr0 (Hid.out (And.left (And.left ‹(Hid (Tail w L E5 E7 D wc.heap.size E7 n a (some ⟨b1, o1, none⟩) kx cl M p _) ∧ _) ∧ _›))) hF_)))); clear hF_) | (go_at_call 40; first | (with_reducible refine (rest_any _ _ M p _ (Tail.ch (Hid.out (And.left (And.left ‹(Hid (Tail w L E5 E7 D wc.heap.size E7 n a (some ⟨b1, o1, none⟩) kx cl M p _) ∧ _) ∧ _›))))).mono ?_; rintro e w' ⟨⟨q, rfl, hq⟩, rfl⟩; have HQ := Lib.hid hq; clear hq) | (refine (rest_nil _).mono ?_; rintro e w' ⟨rfl, rfl⟩)) | (go_at_call 36; first | (with_reducible refine (list_n _ _ M.tail q _ m HTN.out (Hid.out HQ) (Tail.ord (Hid.out (And.left (And.left ‹(Hid (Tail w L E5 E7 D wc.heap.size E7 n a (some ⟨b1, o1, none⟩) kx cl M p _) ∧ _) ∧ _›)))).2.2.2.2.2 (by omega)).mono ?_; rintro e w8 ⟨⟨g1, rfl, hb⟩, hF_⟩; have HR8 := Lib.hid hb; have hS' := (And.intro (Tail.all (Tail.fr0 (Hid.out (And.left (And.left ‹(Hid (Tail w L E5 E7 D wc.heap.size E7 n a (some ⟨b1, o1, none⟩) kx cl M p _) ∧ _) ∧ _›))) hF_)) (HXC.out _ (Tail.fr (Tail.fr0 (Hid.out (And.left (And.left ‹(Hid (Tail w L E5 E7 D wc.heap.size E7 n a (some ⟨b1, o1, none⟩) kx cl M p _) ∧ _) ∧ _›))) hF_)))); clear hF_ hb) | (refine (list_n 0 0 [] none _ 0 rfl rfl (Nat.zero_le _) (by omega)).mono ?_; rintro e w8 ⟨⟨g1, rfl, hb⟩, hF_⟩; have hS' := (And.intro (Tail.all (Tail.fr0 (Hid.out (And.left (And.left ‹(Hid (Tail w L E5 E7 D wc.heap.size E7 n a (some ⟨b1, o1, none⟩) kx cl M p _) ∧ _) ∧ _›))) hF_)) (HXC.out _ (Tail.fr (Tail.fr0 (Hid.out (And.left (And.left ‹(Hid (Tail w L E5 E7 D wc.heap.size E7 n a (some ⟨b1, o1, none⟩) kx cl M p _) ∧ _) ∧ _›))) hF_)))); clear hF_ hb)) | (go_at_call 35; refine (same_true _ _ _ _ _ m (Hid.out HR8) (RM.out _ (Tail.fr (Hid.out (And.left (And.left ‹(Hid (Tail w L E5 E7 D wc.heap.size E7 n a (some ⟨b1, o1, none⟩) kx cl M p _) ∧ _) ∧ _›))))) HTL.out (by omega)).mono ?_; rintro e w9 ⟨rfl, hF_⟩; have hS' := (And.intro (Tail.all (Tail.fr0 (Hid.out (And.left (And.left ‹(Hid (Tail w L E5 E7 D wc.heap.size E7 n a (some ⟨b1, o1, none⟩) kx cl M p _) ∧ _) ∧ _›))) hF_)) (HXC.out _ (Tail.fr (Tail.fr0 (Hid.out (And.left (And.left ‹(Hid (Tail w L E5 E7 D wc.heap.size E7 n a (some ⟨b1, o1, none⟩) kx cl M p _) ∧ _) ∧ _›))) hF_)))); clear hF_) | (go_at_call 37; refine (len_any 0 0 [] none _ rfl).mono ?_; rintro e w' ⟨rfl, rfl⟩))
      refine hK.out _ _ (by first | exact hS' | assumption) (fun hS' => ?_)
      try simp only [Act.put, List.setIfInBounds_toArray, List.set_cons_zero, List.set_cons_succ]
      repeat (first | (refine hl_on (o := ?_) (v := ?_) ?_ ?_ (fun w hSw => ?_) ?_; rotate_left 2; (focus ((simp only [List.getElem?_toArray, List.getElem?_cons_succ, List.getElem?_cons_zero]); (try rfl); done)); (focus (rfl)); (focus ((try dsimp only at hSw); go_simp; (try with_reducible rfl); done)); simp only [Act.put, List.setIfInBounds_toArray, List.set_cons_zero, List.set_cons_succ]) | (refine hl_off_light (o := ?_) ?_ ?_ ?_; rotate_left 1; (focus ((simp only [List.getElem?_toArray, List.getElem?_cons_succ, List.getElem?_cons_zero]); (try rfl); done)); (focus (rfl)); simp only [Act.put, List.setIfInBounds_toArray, List.set_cons_zero, List.set_cons_succ]) | fail)
      have hTb := (Hid.out (And.left (And.left ‹(Hid (Tail w L E5 E7 D wc.heap.size E7 n a (some ⟨b1, o1, none⟩) kx cl M p _) ∧ _) ∧ _›)))
      have hT := hTb.set true
      obtain ⟨u, hu⟩ := hTb.res
      have hB2 := hu.set 0 (.bool true)
      refine hl_heavy (o := ?_) ?_ ?_ (fun K hK => ?_)
      rotate_left 1
      (focus ((simp only [List.getElem?_toArray, List.getElem?_cons_succ, List.getElem?_cons_zero]); (try rfl); done))
      focus (rfl)
      go_simp
      (first | (go_at_call 32; refine (awake_any _).mono ?_; rintro e w' ⟨rfl, hF_⟩; have hS' := (And.intro (Tail.all (Tail.fr0 (Hid.out (And.left (And.left ‹(Hid (Tail w L E5 E7 D wc.heap.size E7 n a (some ⟨b1, o1, none⟩) kx cl M p _) ∧ _) ∧ _›))) hF_)) (HXC.out _ (Tail.fr (Tail.fr0 (Hid.out (And.left (And.left ‹(Hid (Tail w L E5 E7 D wc.heap.size E7 n a (some ⟨b1, o1, none⟩) kx cl M p _) ∧ _) ∧ _›))) hF_)))); clear hF_) | (go_at_call 40; first | (with_reducible refine (rest_any _ _ M p _ (Tail.ch (Hid.out (And.left (And.left ‹(Hid (Tail w L E5 E7 D wc.heap.size E7 n a (some ⟨b1, o1, none⟩) kx cl M p _) ∧ _) ∧ _›))))).mono ?_; rintro e w' ⟨⟨q, rfl, hq⟩, rfl⟩; have HQ := Lib.hid hq; clear hq) | (refine (rest_nil _).mono ?_; rintro e w' ⟨rfl, rfl⟩)) | (go_at_call 36; first | (with_reducible refine (list_n _ _ M.tail q _ m HTN.out (Hid.out HQ) (Tail.ord (Hid.out (And.left (And.left ‹(Hid (Tail w L E5 E7 D wc.heap.size E7 n a (some ⟨b1, o1, none⟩) kx cl M p _) ∧ _) ∧ _›)))).2.2.2.2.2 (by omega)).mono ?_; rintro e w8 ⟨⟨g1, rfl, hb⟩, hF_⟩; have HR8 := Lib.hid hb; have hS' := (And.intro (Tail.all (Tail.fr0 (Hid.out (And.left (And.left ‹(Hid (Tail w L E5 E7 D wc.heap.size E7 n a (some ⟨b1, o1, none⟩) kx cl M p _) ∧ _) ∧ _›))) hF_)) (HXC.out _ (Tail.fr (Tail.fr0 (Hid.out (And.left (And.left ‹(Hid (Tail w L E5 E7 D wc.heap.size E7 n a (some ⟨b1, o1, none⟩) kx cl M p _) ∧ _) ∧ _›))) hF_)))); clear hF_ hb) | (refine (list_n 0 0 [] none _ 0 rfl rfl (Nat.zero_le _) (by omega)).mono ?_; rintro e w8 ⟨⟨g1, rfl, hb⟩, hF_⟩; have hS' := (And.intro (Tail.all (Tail.fr0 (Hid.out (And.left (And.left ‹(Hid (Tail w L E5 E7 D wc.heap.size E7 n a (some ⟨b1, o1, none⟩) kx cl M p _) ∧ _) ∧ _›))) hF_)) (HXC.out _ (Tail.fr (Tail.fr0 (Hid.out (And.left (And.left ‹(Hid (Tail w L E5 E7 D wc.heap.size E7 n a (some ⟨b1, o1, none⟩) kx cl M p _) ∧ _) ∧ _›))) hF_)))); clear hF_ hb)) | (go_at_call 35; refine (same_true _ _ _ _ _ m (Hid.out HR8) (RM.out _ (Tail.fr (Hid.out (And.left (And.left ‹(Hid (Tail w L E5 E7 D wc.heap.size E7 n a (some ⟨b1, o1, none⟩) kx cl M p _) ∧ _) ∧ _›))))) HTL.out (by omega)).mono ?_; rintro e w9 ⟨rfl, hF_⟩; have hS' := (And.intro (Tail.all (Tail.fr0 (Hid.out (And.left (And.left ‹(Hid (Tail w L E5 E7 D wc.heap.size E7 n a (some ⟨b1, o1, none⟩) kx cl M p _) ∧ _) ∧ _›))) hF_)) (HXC.out _ (Tail.fr (Tail.fr0 (Hid.out (And.left (And.left ‹(Hid (Tail w L E5 E7 D wc.heap.size E7 n a (some ⟨b1, o1, none⟩) kx cl M p _) ∧ _) ∧ _›))) hF_)))); clear hF_) | (go_at_call 37; refine (len_any 0 0 [] none _ rfl).mono ?_; rintro e w' ⟨rfl, rfl⟩))
      refine hK.out _ _ (by first | exact hS' | assumption) (fun hS' => ?_)
      try simp only [Act.put, List.setIfInBounds_toArray, List.set_cons_zero, List.set_cons_succ]
      repeat (first | (refine hl_on (o := ?_) (v := ?_) ?_ ?_ (fun w hSw => ?_) ?_; rotate_left 2; (focus ((simp only [List.getElem?_toArray, List.getElem?_cons_succ, List.getElem?_cons_zero]); (try rfl); done)); (focus (rfl)); (focus ((try dsimp only at hSw); go_simp; (try with_reducible rfl); done)); simp only [Act.put, List.setIfInBounds_toArray, List.set_cons_zero, List.set_cons_succ]) | (refine hl_off_light (o := ?_) ?_ ?_ ?_; rotate_left 1; (focus ((simp only [List.getElem?_toArray, List.getElem?_cons_succ, List.getElem?_cons_zero]); (try rfl); done)); (focus (rfl)); simp only [Act.put, List.setIfInBounds_toArray, List.set_cons_zero, List.set_cons_succ]) | fail)
      have hTb := (Hid.out (And.left (And.left ‹(Hid (Tail w L E5 E7 D wc.heap.size E7 n a (some ⟨b1, o1, none⟩) kx cl M p _) ∧ _) ∧ _›)))
      have hT := hTb.set true
      obtain ⟨u, hu⟩ := hTb.res
      have hB2 := hu.set 0 (.bool true)
      refine hl_heavy (o := ?_) ?_ ?_ (fun K hK => ?_)
      rotate_left 1
      (focus ((simp only [List.getElem?_toArray, List.getElem?_cons_succ, List.getElem?_cons_zero]); (try rfl); done))
      focus (rfl)
      go_simp
      (first | (go_at_call 32; refine (awake_any _).mono ?_; rintro e w' ⟨rfl, hF_⟩; have hS' := (And.intro (Tail.all (Tail.fr0 (Hid.out (And.left (And.left ‹(Hid (Tail w L E5 E7 D wc.heap.size E7 n a (some ⟨b1, o1, none⟩) kx cl M p _) ∧ _) ∧ _›))) hF_)) (HXC.out _ (Tail.fr (Tail.fr0 (Hid.out (And.left (And.left ‹(Hid (Tail w L E5 E7 D wc.heap.size E7 n a (some ⟨b1, o1, none⟩) kx cl M p _) ∧ _) ∧ _›))) hF_)))); clear hF_) | (go_at_call 40; first | (with_reducible refine (rest_any _ _ M p _ (Tail.ch (Hid.out (And.left (And.left ‹(Hid (Tail w L E5 E7 D wc.heap.size E7 n a (some ⟨b1, o1, none⟩) kx cl M p _) ∧ _) ∧ _›))))).mono ?_; rintro e w' ⟨⟨q, rfl, hq⟩, rfl⟩; have HQ := Lib.hid hq; clear hq) | (refine (rest_nil _).mono ?_; rintro e w' ⟨rfl, rfl⟩)) | (go_at_call 36; first | (with_reducible refine (list_n _ _ M.tail q _ m HTN.out (Hid.out HQ) (Tail.ord (Hid.out (And.left (And.left ‹(Hid (Tail w L E5 E7 D wc.heap.size E7 n a (some ⟨b1, o1, none⟩) kx cl M p _) ∧ _) ∧ _›)))).2.2.2.2.2 (by omega)).mono ?_; rintro e w8 ⟨⟨g1, rfl, hb⟩, hF_⟩; have HR8 := Lib.hid hb; have hS' := (And.intro (Tail.all (Tail.fr0 (Hid.out (And.left (And.left ‹(Hid (Tail w L E5 E7 D wc.heap.size E7 n a (some ⟨b1, o1, none⟩) kx cl M p _) ∧ _) ∧ _›))) hF_)) (HXC.out _ (Tail.fr (Tail.fr0 (Hid.out (And.left (And.left ‹(Hid (Tail w L E5 E7 D wc.heap.size E7 n a (some ⟨b1, o1, none⟩) kx cl M p _) ∧ _) ∧ _›))) hF_)))); clear hF_ hb) | (refine (list_n 0 0 [] none _ 0 rfl rfl (Nat.zero_le _) (by omega)).mono ?_; rintro e w8 ⟨⟨g1, rfl, hb⟩, hF_⟩; have hS' := (And.intro (Tail.all (Tail.fr0 (Hid.out (And.left (And.left ‹(Hid (Tail w L E5 E7 D wc.heap.size E7 n a (some ⟨b1, o1, none⟩) kx cl M p _) ∧ _) ∧ _›))) hF_)) (HXC.out _ (Tail.fr (Tail.fr0 (Hid.out (And.left (And.left ‹(Hid (Tail w L E5 E7 D wc.heap.size E7 n a (some ⟨b1, o1, none⟩) kx cl M p _) ∧ _) ∧ _›))) hF_)))); clear hF_ hb)) | (go_at_call 35; refine (same_true _ _ _ _ _ m (Hid.out HR8) (RM.out _ (Tail.fr (Hid.out (And.left (And.left ‹(Hid (Tail w L E5 E7 D wc.heap.size E7 n a (some ⟨b1, o1, none⟩) kx cl M p _) ∧ _) ∧ _›))))) HTL.out (by omega)).mono ?_; rintro e w9 ⟨rfl, hF_⟩; have hS' := (And.intro (Tail.all (Tail.fr0 (Hid.out (And.left (And.left ‹(Hid (Tail w L E5 E7 D wc.heap.size E7 n a (some ⟨b1, o1, none⟩) kx cl M p _) ∧ _) ∧ _›))) hF_)) (HXC.out _ (Tail.fr (Tail.fr0 (Hid.out (And.left (And.left ‹(Hid (Tail w L E5 E7 D wc.heap.size E7 n a (some ⟨b1, o1, none⟩) kx cl M p _) ∧ _) ∧ _›))) hF_)))); clear hF_) | (go_at_call 37; refine (len_any 0 0 [] none _ rfl).mono ?_; rintro e w' ⟨rfl, rfl⟩))
      refine hK.out _ _ (by first | exact hS' | assumption) (fun hS' => ?_)
      try simp only [Act.put, List.setIfInBounds_toArray, List.set_cons_zero, List.set_cons_succ]
      repeat (first | (refine hl_on (o := ?_) (v := ?_) ?_ ?_ (fun w hSw => ?_) ?_; rotate_left 2; (focus ((simp only [List.getElem?_toArray, List.getElem?_cons_succ, List.getElem?_cons_zero]); (try rfl); done)); (focus (rfl)); (focus ((try dsimp only at hSw); go_simp; (try with_reducible rfl); done)); simp only [Act.put, List.setIfInBounds_toArray, List.set_cons_zero, List.set_cons_succ]) | (refine hl_off_light (o := ?_) ?_ ?_ ?_; rotate_left 1; (focus ((simp only [List.getElem?_toArray, List.getElem?_cons_succ, List.getElem?_cons_zero]); (try rfl); done)); (focus (rfl)); simp only [Act.put, List.setIfInBounds_toArray, List.set_cons_zero, List.set_cons_succ]) | fail)
      have hTb := (Hid.out (And.left (And.left ‹(Hid (Tail w L E5 E7 D wc.heap.size E7 n a (some ⟨b1, o1, none⟩) kx cl M p _) ∧ _) ∧ _›)))
      have hT := hTb.set true
      obtain ⟨u, hu⟩ := hTb.res
      have hB2 := hu.set 0 (.bool true)
      refine hl_heavy (o := ?_) ?_ ?_ (fun K hK => ?_)
      rotate_left 1
      (focus ((simp only [List.getElem?_toArray, List.getElem?_cons_succ, List.getElem?_cons_zero]); (try rfl); done))
      focus (rfl)
      go_simp
      (first | (go_at_call 32; refine (awake_any _).mono ?_; rintro e w' ⟨rfl, hF_⟩; have hS' := (And.intro (Tail.all (Tail.fr0 (Hid.out (And.left (And.left ‹(Hid (Tail w L E5 E7 D wc.heap.size E7 n a (some ⟨b1, o1, none⟩) kx cl M p _) ∧ _) ∧ _›))) hF_)) (HXC.out _ (Tail.fr (Tail.fr0 (Hid.out (And.left (And.left ‹(Hid (Tail w L E5 E7 D wc.heap.size E7 n a (some ⟨b1, o1, none⟩) kx cl M p _) ∧ _) ∧ _›))) hF_)))); clear hF_) | (go_at_call 40; first | (with_reducible refine (rest_any _ _ M p _ (Tail.ch (Hid.out (And.left (And.left ‹(Hid (Tail w L E5 E7 D wc.heap.size E7 n a (some ⟨b1, o1, none⟩) kx cl M p _) ∧ _) ∧ _›))))).mono ?_; rintro e w' ⟨⟨q, rfl, hq⟩, rfl⟩; have HQ := Lib.hid hq; clear hq) | (refine (rest_nil _).mono ?_; rintro e w' ⟨rfl, rfl⟩)) | (go_at_call 36; first | (with_reducible refine (list_n _ _ M.tail q _ m HTN.out (Hid.out HQ) (Tail.ord (Hid.out (And.left (And.left ‹(Hid (Tail w L E5 E7 D wc.heap.size E7 n a (some ⟨b1, o1, none⟩) kx cl M p _) ∧ _) ∧ _›)))).2.2.2.2.2 (by omega)).mono ?_; rintro e w8 ⟨⟨g1, rfl, hb⟩, hF_⟩; have HR8 := Lib.hid hb; have hS' := (And.intro (Tail.all (Tail.fr0 (Hid.out (And.left (And.left ‹(Hid (Tail w L E5 E7 D wc.heap.size E7 n a (some ⟨b1, o1, none⟩) kx cl M p _) ∧ _) ∧ _›))) hF_)) (HXC.out _ (Tail.fr (Tail.fr0 (Hid.out (And.left (And.left ‹(Hid (Tail w L E5 E7 D wc.heap.size E7 n a (some ⟨b1, o1, none⟩) kx cl M p _) ∧ _) ∧ _›))) hF_)))); clear hF_ hb) | (refine (list_n 0 0 [] none _ 0 rfl rfl (Nat.zero_le _) (by omega)).mono ?_; rintro e w8 ⟨⟨g1, rfl, hb⟩, hF_⟩; have hS' := (And.intro (Tail.all (Tail.fr0 (Hid.out (And.left (And.left ‹(Hid (Tail w L E5 E7 D wc.heap.size E7 n a (some ⟨b1, o1, none⟩) kx cl M p _) ∧ _) ∧ _›))) hF_)) (HXC.out _ (Tail.fr (Tail.fr0 (Hid.out (And.left (And.left ‹(Hid (Tail w L E5 E7 D wc.heap.size E7 n a (some ⟨b1, o1, none⟩) kx cl M p _) ∧ _) ∧ _›))) hF_)))); clear hF_ hb)) | (go_at_call 35; refine (same_true _ _ _ _ _ m (Hid.out HR8) (RM.out _ (Tail.fr (Hid.out (And.left (And.left ‹(Hid (Tail w L E5 E7 D wc.heap.size E7 n a (some ⟨b1, o1, none⟩) kx cl M p _) ∧ _) ∧ _›))))) HTL.out (by omega)).mono ?_; rintro e w9 ⟨rfl, hF_⟩; have hS' := (And.intro (Tail.all (Tail.fr0 (Hid.out (And.left (And.left ‹(Hid (Tail w L E5 E7 D wc.heap.size E7 n a (some ⟨b1, o1, none⟩) kx cl M p _) ∧ _) ∧ _›))) hF_)) (HXC.out _ (Tail.fr (Tail.fr0 (Hid.out (And.left (And.left ‹(Hid (Tail w L E5 E7 D wc.heap.size E7 n a (some ⟨b1, o1, none⟩) kx cl M p _) ∧ _) ∧ _›))) hF_)))); clear hF_) | (go_at_call 37; refine (len_any 0 0 [] none _ rfl).mono ?_; rintro e w' ⟨rfl, rfl⟩))
      refine hK.out _ _ (by first | exact hS' | assumption) (fun hS' => ?_)
      try simp only [Act.put, List.setIfInBounds_toArray, List.set_cons_zero, List.set_cons_succ]
      repeat (first | (refine hl_on (o := ?_) (v := ?_) ?_ ?_ (fun w hSw => ?_) ?_; rotate_left 2; (focus ((simp only [List.getElem?_toArray, List.getElem?_cons_succ, List.getElem?_cons_zero]); (try rfl); done)); (focus (rfl)); (focus ((try dsimp only at hSw); go_simp; (try with_reducible rfl); done)); simp only [Act.put, List.setIfInBounds_toArray, List.set_cons_zero, List.set_cons_succ]) | (refine hl_off_light (o := ?_) ?_ ?_ ?_; rotate_left 1; (focus ((simp only [List.getElem?_toArray, List.getElem?_cons_succ, List.getElem?_cons_zero]); (try rfl); done)); (focus (rfl)); simp only [Act.put, List.setIfInBounds_toArray, List.set_cons_zero, List.set_cons_succ]) | fail)
      have hTb := (Hid.out (And.left (And.left ‹(Hid (Tail w L E5 E7 D wc.heap.size E7 n a (some ⟨b1, o1, none⟩) kx cl M p _) ∧ _) ∧ _›)))
      have hT := hTb.set true
      obtain ⟨u, hu⟩ := hTb.res
      have hB2 := hu.set 0 (.bool true)
      refine hl_heavy (o := ?_) ?_ ?_ (fun K hK => ?_)
      rotate_left 1
      (focus ((simp only [List.getElem?_toArray, List.getElem?_cons_succ, List.getElem?_cons_zero]); (try rfl); done))
      focus (rfl)
      go_simp
      (first | (go_at_call 32; refine (awake_any _).mono ?_; rintro e w' ⟨rfl, hF_⟩; have hS' := (And.intro (Tail.all (Tail.fr0 (Hid.out (And.left (And.left ‹(Hid (Tail w L E5 E7 D wc.heap.size E7 n a (some ⟨b1, o1, none⟩) kx cl M p _) ∧ _) ∧ _›))) hF_)) (HXC.out _ (Tail.fr (Tail.fr0 (Hid.out (And.left (And.left ‹(Hid (Tail w L E5 E7 D wc.heap.size E7 n a (some ⟨b1, o1, none⟩) kx cl M p _) ∧ _) ∧ _›))) hF_)))); clear hF_) | (go_at_call 40; first | (with_reducible refine (rest_any _ _ M p _ (Tail.ch (Hid.out (And.left (And.left ‹(Hid (Tail w L E5 E7 D wc.heap.size E7 n a (some ⟨b1, o1, none⟩) kx cl M p _) ∧ _) ∧ _›))))).mono ?_; rintro e w' ⟨⟨q, rfl, hq⟩, rfl⟩; have HQ := Lib.hid hq; clear hq) | (refine (rest_nil _).mono ?_; rintro e w' ⟨rfl, rfl⟩)) | (go_at_call 36; first | (with_reducible refine (list_n _ _ M.tail q _ m HTN.out (Hid.out HQ) (Tail.ord (Hid.out (And.left (And.left ‹(Hid (Tail w L E5 E7 D wc.heap.size E7 n a (some ⟨b1, o1, none⟩) kx cl M p _) ∧ _) ∧ _›)))).2.2.2.2.2 (by omega)).mono ?_; rintro e w8 ⟨⟨g1, rfl, hb⟩, hF_⟩; have HR8 := Lib.hid hb; have hS' := (And.intro (Tail.all (Tail.fr0 (Hid.out (And.left (And.left ‹(Hid (Tail w L E5 E7 D wc.heap.size E7 n a (some ⟨b1, o1, none⟩) kx cl M p _) ∧ _) ∧ _›))) hF_)) (HXC.out _ (Tail.fr (Tail.fr0 (Hid.out (And.left (And.left ‹(Hid (Tail w L E5 E7 D wc.heap.size E7 n a (some ⟨b1, o1, none⟩) kx cl M p _) ∧ _) ∧ _›))) hF_)))); clear hF_ hb) | (refine (list_n 0 0 [] none _ 0 rfl rfl (Nat.zero_le _) (by omega)).mono ?_; rintro e w8 ⟨⟨g1, rfl, hb⟩, hF_⟩; have hS' := (And.intro (Tail.all (Tail.fr0 (Hid.out (And.left (And.left ‹(Hid (Tail w L E5 E7 D wc.heap.size E7 n a (some ⟨b1, o1, none⟩) kx cl M p _) ∧ _) ∧ _›))) hF_)) (HXC.out _ (Tail.fr (Tail.fr0 (Hid.out (And.left (And.left ‹(Hid (Tail w L E5 E7 D wc.heap.size E7 n a (some ⟨b1, o1, none⟩) kx cl M p _) ∧ _) ∧ _›))) hF_)))); clear hF_ hb)) | (go_at_call 35; refine (same_true _ _ _ _ _ m (Hid.out HR8) (RM.out _ (Tail.fr (Hid.out (And.left (And.left ‹(Hid (Tail w L E5 E7 D wc.heap.size E7 n a (some ⟨b1, o1, none⟩) kx cl M p _) ∧ _) ∧ _›))))) HTL.out (by omega)).mono ?_; rintro e w9 ⟨rfl, hF_⟩; have hS' := (And.intro (Tail.all (Tail.fr0 (Hid.out (And.left (And.left ‹(Hid (Tail w L E5 E7 D wc.heap.size E7 n a (some ⟨b1, o1, none⟩) kx cl M p _) ∧ _) ∧ _›))) hF_)) (HXC.out _ (Tail.fr (Tail.fr0 (Hid.out (And.left (And.left ‹(Hid (Tail w L E5 E7 D wc.heap.size E7 n a (some ⟨b1, o1, none⟩) kx cl M p _) ∧ _) ∧ _›))) hF_)))); clear hF_) | (go_at_call 37; refine (len_any 0 0 [] none _ rfl).mono ?_; rintro e w' ⟨rfl, rfl⟩))
      refine hK.out _ _ (by first | exact hS' | assumption) (fun hS' => ?_)
      try simp only [Act.put, List.setIfInBounds_toArray, List.set_cons_zero, List.set_cons_succ]
      repeat (first | (refine hl_on (o := ?_) (v := ?_) ?_ ?_ (fun w hSw => ?_) ?_; rotate_left 2; (focus ((simp only [List.getElem?_toArray, List.getElem?_cons_succ, List.getElem?_cons_zero]); (try rfl); done)); (focus (rfl)); (focus ((try dsimp only at hSw); go_simp; (try with_reducible rfl); done)); simp only [Act.put, List.setIfInBounds_toArray, List.set_cons_zero, List.set_cons_succ]) | (refine hl_off_light (o := ?_) ?_ ?_ ?_; rotate_left 1; (focus ((simp only [List.getElem?_toArray, List.getElem?_cons_succ, List.getElem?_cons_zero]); (try rfl); done)); (focus (rfl)); simp only [Act.put, List.setIfInBounds_toArray, List.set_cons_zero, List.set_cons_succ]) | fail)
      have hTb := (Hid.out (And.left (And.left ‹(Hid (Tail w L E5 E7 D wc.heap.size E7 n a (some ⟨b1, o1, none⟩) kx cl M p _) ∧ _) ∧ _›)))
      have hT := hTb.set true
      obtain ⟨u, hu⟩ := hTb.res
      have hB2 := hu.set 0 (.bool true)
      refine hl_heavy (o := ?_) ?_ ?_ (fun K hK => ?_)
      rotate_left 1
      (focus ((simp only [List.getElem?_toArray, List.getElem?_cons_succ, List.getElem?_cons_zero]); (try rfl); done))
      focus (rfl)
      go_simp
      (first | (go_at_call 32; refine (awake_any _).mono ?_; rintro e w' ⟨rfl, hF_⟩; have hS' := (And.intro (Tail.all (Tail.fr0 (Hid.out (And.left (And.left ‹(Hid (Tail w L E5 E7 D wc.heap.size E7 n a (some ⟨b1, o1, none⟩) kx cl M p _) ∧ _) ∧ _›))) hF_)) (HXC.out _ (Tail.fr (Tail.fr0 (Hid.out (And.left (And.left ‹(Hid (Tail w L E5 E7 D wc.heap.size E7 n a (some ⟨b1, o1, none⟩) kx cl M p _) ∧ _) ∧ _›))) hF_)))); clear hF_) | (go_at_call 40; first | (with_reducible refine (rest_any _ _ M p _ (Tail.ch (Hid.out (And.left (And.left ‹(Hid (Tail w L E5 E7 D wc.heap.size E7 n a (some ⟨b1, o1, none⟩) kx cl M p _) ∧ _) ∧ _›))))).mono ?_; rintro e w' ⟨⟨q, rfl, hq⟩, rfl⟩; have HQ := Lib.hid hq; clear hq) | (refine (rest_nil _).mono ?_; rintro e w' ⟨rfl, rfl⟩)) | (go_at_call 36; first | (with_reducible refine (list_n _ _ M.tail q _ m HTN.out (Hid.out HQ) (Tail.ord (Hid.out (And.left (And.left ‹(Hid (Tail w L E5 E7 D wc.heap.size E7 n a (some ⟨b1, o1, none⟩) kx cl M p _) ∧ _) ∧ _›)))).2.2.2.2.2 (by omega)).mono ?_; rintro e w8 ⟨⟨g1, rfl, hb⟩, hF_⟩; have HR8 := Lib.hid hb; have hS' := (And.intro (Tail.all (Tail.fr0 (Hid.out (And.left (And.left ‹(Hid (Tail w L E5 E7 D wc.heap.size E7 n a (some ⟨b1, o1, none⟩) kx cl M p _) ∧ _) ∧ _›))) hF_)) (HXC.out _ (Tail.fr (Tail.fr0 (Hid.out (And.left (And.left ‹(Hid (Tail w L E5 E7 D wc.heap.size E7 n a (some ⟨b1, o1, none⟩) kx cl M p _) ∧ _) ∧ _›))) hF_)))); clear hF_ hb) | (refine (list_n 0 0 [] none _ 0 rfl rfl (Nat.zero_le _) (by omega)).mono ?_; rintro e w8 ⟨⟨g1, rfl, hb⟩, hF_⟩; have hS' := (And.intro (Tail.all (Tail.fr0 (Hid.out (And.left (And.left ‹(Hid (Tail w L E5 E7 D wc.heap.size E7 n a (some ⟨b1, o1, none⟩) kx cl M p _) ∧ _) ∧ _›))) hF_)) (HXC.out _ (Tail.fr (Tail.fr0 (Hid.out (And.left (And.left ‹(Hid (Tail w L E5 E7 D wc.heap.size E7 n a (some ⟨b1, o1, none⟩) kx cl M p _) ∧ _) ∧ _›))) hF_)))); clear hF_ hb)) | (go_at_call 35; refine (same_true _ _ _ _ _ m (Hid.out HR8) (RM.out _ (Tail.fr (Hid.out (And.left (And.left ‹(Hid (Tail w L E5 E7 D wc.heap.size E7 n a (some ⟨b1, o1, none⟩) kx cl M p _) ∧ _) ∧ _›))))) HTL.out (by omega)).mono ?_; rintro e w9 ⟨rfl, hF_⟩; have hS' := (And.intro (Tail.all (Tail.fr0 (Hid.out (And.left (And.left ‹(Hid (Tail w L E5 E7 D wc.heap.size E7 n a (some ⟨b1, o1, none⟩) kx cl M p _) ∧ _) ∧ _›))) hF_)) (HXC.out _ (Tail.fr (Tail.fr0 (Hid.out (And.left (And.left ‹(Hid (Tail w L E5 E7 D wc.heap.size E7 n a (some ⟨b1, o1, none⟩) kx cl M p _) ∧ _) ∧ _›))) hF_)))); clear hF_) | (go_at_call 37; refine (len_any 0 0 [] none _ rfl).mono ?_; rintro e w' ⟨rfl, rfl⟩))
      refine hK.out _ _ (by first | exact hS' | assumption) (fun hS' => ?_)
      try simp only [Act.put, List.setIfInBounds_toArray, List.set_cons_zero, List.set_cons_succ]
      repeat (first | (refine hl_on (o := ?_) (v := ?_) ?_ ?_ (fun w hSw => ?_) ?_; rotate_left 2; (focus ((simp only [List.getElem?_toArray, List.getElem?_cons_succ, List.getElem?_cons_zero]); (try rfl); done)); (focus (rfl)); (focus ((try dsimp only at hSw); go_simp; (try with_reducible rfl); done)); simp only [Act.put, List.setIfInBounds_toArray, List.set_cons_zero, List.set_cons_succ]) | (refine hl_off_light (o := ?_) ?_ ?_ ?_; rotate_left 1; (focus ((simp only [List.getElem?_toArray, List.getElem?_cons_succ, List.getElem?_cons_zero]); (try rfl); done)); (focus (rfl)); simp only [Act.put, List.setIfInBounds_toArray, List.set_cons_zero, List.set_cons_succ]) | fail)
      have hTb := (Hid.out (And.left (And.left ‹(Hid (Tail w L E5 E7 D wc.heap.size E7 n a (some ⟨b1, o1, none⟩) kx cl M p _) ∧ _) ∧ _›)))
      have hT := hTb.set true
      obtain ⟨u, hu⟩ := hTb.res
      have hB2 := hu.set 0 (.bool true)
      refine hl_heavy (o := ?_) ?_ ?_ (fun K hK => ?_)
      rotate_left 1
      (focus ((simp only [List.getElem?_toArray, List.getElem?_cons_succ, List.getElem?_cons_zero]); (try rfl); done))
      focus (rfl)
      go_simp
      refine hK.out _ _ ((And.intro (Tail.all (Tail.set (Hid.out (And.left (And.left ‹(Hid (Tail w L E5 E7 D wc.heap.size E7 n a (some ⟨b1, o1, none⟩) kx cl M p _) ∧ _) ∧ _›))) _)) (HXC.out _ (Tail.fr (Tail.set (Hid.out (And.left (And.left ‹(Hid (Tail w L E5 E7 D wc.heap.size E7 n a (some ⟨b1, o1, none⟩) kx cl M p _) ∧ _) ∧ _›))) _))))) (fun hS' => ?_)
      clear hS'
      refine hl_done_np ?_
      go_wp2
      have hDw : w.heap.size ≤ D := by have := HWG.out.size; have := HDD.out; omega
      refine leaves_loop (v := .bool true) hT.mark ?_ ⟨rfl, hT.fr.taken hDw _⟩
      have hc := (hB2.taken hT.mark (.deferred none)).cell_at (o := 0) rfl
      simp [results, Try.f8, go_sem, hc]
    · have hp0 : p = none := by
        have h1 := ly.out
        cases hMM : M with
        | nil => have h := HT.out.ch; rw [hMM] at h; exact h
        | cons y r => rw [hMM] at h1; simp at h1; omega
      have HNW : Hid (Calls Try.prog 39 #[.pointer p] W fun e w' => e = .returned (.tuple #[.int .i64 0, .bool false]) ∧ W = w') := Lib.hid (by rw [hp0]; exact newest_none W)
      have hd0 : decide (0 < kx) = false := decide_eq_false hk0
      have hd0i : decide ((0 : Int) < (kx : Int)) = false := decide_eq_false (by omega)
      have HK0 := Lib.hid hk0
      clear hp0 hk0
      go_wp2_with fail
      refine HNW.out.mono ?_
      rintro e w' ⟨rfl, rfl⟩
      go_wp2_with fail
      refine (newest_none _).mono ?_
      rintro e w' ⟨rfl, rfl⟩
      go_upto_region 15 with (fail)
      simp only [List.append_eq, List.cons_append, List.nil_append]
      have hS0 : True := trivial
      have hS9 := (Tail.all (Tail.fr0 HT.out (Fr.refl _ _).drew))
      refine wp_region_plan_np (fun V => Hid (Tail w L E5 E7 D wc.heap.size E7 n a al kx cl M p V) ∧ V.cell? ⟨E7, 0, none⟩ = some (.int .i64 a) ∧ V.cell? ⟨L, 0, none⟩ = some (.int .i64 n) ∧ V.cell? ⟨E5, 0, none⟩ = some (.slice al kx cl) ∧ V.cell? ⟨L + 1, 0, none⟩ = some (cv V ⟨L + 1, 0, none⟩) ∧ V.frozen? ⟨L + 1, 0, none⟩ = false) [(0, false), (1, true), (2, true), (3, true), (4, true), (5, true), (6, true), (7, true), (8, true), (9, true), (10, true), (11, true), (12, true), (13, true), (14, true), (15, true), (16, true), (17, true), (18, true), (19, true), (20, true), (21, true), (22, true), (23, true), (24, true), (25, true), (26, true), (27, true), (28, true), (29, true), (30, true), (31, true), (32, true), (33, true), (36, true), (37, true), (38, true), (39, true), (40, true), (41, true), (34, false), (35, false), (42, false), (43, true), (44, true), (45, true), (46, true), (47, true), (48, true), (49, true), (50, false), (51, true), (52, true), (53, true), (54, true), (55, false), (56, true), (57, true), (58, true), (59, true), (60, false), (61, true), (62, true), (63, true), (64, false)] (by kernel_rfl) (by kernel_rfl) hS9 ?_
      repeat (first | (refine hl_on (o := ?_) (v := ?_) ?_ ?_ (fun w hSw => ?_) ?_; rotate_left 2; (focus ((simp only [List.getElem?_toArray, List.getElem?_cons_succ, List.getElem?_cons_zero]); (try rfl); done)); (focus (rfl)); (focus ((try dsimp only at hSw); go_simp; (try with_reducible rfl); done)); simp only [Act.put, List.setIfInBounds_toArray, List.set_cons_zero, List.set_cons_succ]) | (refine hl_off_light (o := ?_) ?_ ?_ ?_; rotate_left 1; (focus ((simp only [List.getElem?_toArray, List.getElem?_cons_succ, List.getElem?_cons_zero]); (try rfl); done)); (focus (rfl)); simp only [Act.put, List.setIfInBounds_toArray, List.set_cons_zero, List.set_cons_succ]) | fail)
      have hTb := (Hid.out (And.left ‹Hid (Tail w L E5 E7 D wc.heap.size E7 n a al kx cl M p _) ∧ _›))
      have hT := hTb.set true
      obtain ⟨u, hu⟩ := hTb.res
      have hB2 := hu.set 0 (.bool true)
      refine hl_heavy (o := ?_) ?_ ?_ (fun K hK => ?_)
      rotate_left 1
      (focus ((simp only [List.getElem?_toArray, List.getElem?_cons_succ, List.getElem?_cons_zero]); (try rfl); done))
      focus (rfl)
      go_simp
      (first | (go_at_call 32; refine (awake_any _).mono ?_; rintro e w' ⟨rfl, hF_⟩; have hS' := (Tail.all (Tail.fr0 (Hid.out (And.left ‹Hid (Tail w L E5 E7 D wc.heap.size E7 n a al kx cl M p _) ∧ _›)) hF_)); clear hF_) | (go_at_call 40; first | (with_reducible refine (rest_any _ _ M p _ (Tail.ch (Hid.out (And.left ‹Hid (Tail w L E5 E7 D wc.heap.size E7 n a al kx cl M p _) ∧ _›)))).mono ?_; rintro e w' ⟨⟨q, rfl, hq⟩, rfl⟩; have HQ := Lib.hid hq; clear hq) | (refine (rest_nil _).mono ?_; rintro e w' ⟨rfl, rfl⟩)) | (go_at_call 36; first | (with_reducible refine (list_n _ _ M.tail q _ m HTN.out (Hid.out HQ) (Tail.ord (Hid.out (And.left ‹Hid (Tail w L E5 E7 D wc.heap.size E7 n a al kx cl M p _) ∧ _›))).2.2.2.2.2 (by omega)).mono ?_; rintro e w8 ⟨⟨g1, rfl, hb⟩, hF_⟩; have HR8 := Lib.hid hb; have hS' := (Tail.all (Tail.fr0 (Hid.out (And.left ‹Hid (Tail w L E5 E7 D wc.heap.size E7 n a al kx cl M p _) ∧ _›)) hF_)); clear hF_ hb) | (refine (list_n 0 0 [] none _ 0 rfl rfl (Nat.zero_le _) (by omega)).mono ?_; rintro e w8 ⟨⟨g1, rfl, hb⟩, hF_⟩; have hS' := (Tail.all (Tail.fr0 (Hid.out (And.left ‹Hid (Tail w L E5 E7 D wc.heap.size E7 n a al kx cl M p _) ∧ _›)) hF_)); clear hF_ hb)) | (go_at_call 35; refine (same_true _ _ _ _ _ m (Hid.out HR8) (RM.out _ (Tail.fr (Hid.out (And.left ‹Hid (Tail w L E5 E7 D wc.heap.size E7 n a al kx cl M p _) ∧ _›)))) HTL.out (by omega)).mono ?_; rintro e w9 ⟨rfl, hF_⟩; have hS' := (Tail.all (Tail.fr0 (Hid.out (And.left ‹Hid (Tail w L E5 E7 D wc.heap.size E7 n a al kx cl M p _) ∧ _›)) hF_)); clear hF_) | (go_at_call 37; refine (len_any 0 0 [] none _ rfl).mono ?_; rintro e w' ⟨rfl, rfl⟩))
      refine hK.out _ _ (by first | exact hS' | assumption) (fun hS' => ?_)
      try simp only [Act.put, List.setIfInBounds_toArray, List.set_cons_zero, List.set_cons_succ]
      repeat (first | (refine hl_on (o := ?_) (v := ?_) ?_ ?_ (fun w hSw => ?_) ?_; rotate_left 2; (focus ((simp only [List.getElem?_toArray, List.getElem?_cons_succ, List.getElem?_cons_zero]); (try rfl); done)); (focus (rfl)); (focus ((try dsimp only at hSw); go_simp; (try with_reducible rfl); done)); simp only [Act.put, List.setIfInBounds_toArray, List.set_cons_zero, List.set_cons_succ]) | (refine hl_off_light (o := ?_) ?_ ?_ ?_; rotate_left 1; (focus ((simp only [List.getElem?_toArray, List.getElem?_cons_succ, List.getElem?_cons_zero]); (try rfl); done)); (focus (rfl)); simp only [Act.put, List.setIfInBounds_toArray, List.set_cons_zero, List.set_cons_succ]) | fail)
      have hTb := (Hid.out (And.left ‹Hid (Tail w L E5 E7 D wc.heap.size E7 n a al kx cl M p _) ∧ _›))
      have hT := hTb.set true
      obtain ⟨u, hu⟩ := hTb.res
      have hB2 := hu.set 0 (.bool true)
      refine hl_heavy (o := ?_) ?_ ?_ (fun K hK => ?_)
      rotate_left 1
      (focus ((simp only [List.getElem?_toArray, List.getElem?_cons_succ, List.getElem?_cons_zero]); (try rfl); done))
      focus (rfl)
      go_simp
      (first | (go_at_call 32; refine (awake_any _).mono ?_; rintro e w' ⟨rfl, hF_⟩; have hS' := (Tail.all (Tail.fr0 (Hid.out (And.left ‹Hid (Tail w L E5 E7 D wc.heap.size E7 n a al kx cl M p _) ∧ _›)) hF_)); clear hF_) | (go_at_call 40; first | (with_reducible refine (rest_any _ _ M p _ (Tail.ch (Hid.out (And.left ‹Hid (Tail w L E5 E7 D wc.heap.size E7 n a al kx cl M p _) ∧ _›)))).mono ?_; rintro e w' ⟨⟨q, rfl, hq⟩, rfl⟩; have HQ := Lib.hid hq; clear hq) | (refine (rest_nil _).mono ?_; rintro e w' ⟨rfl, rfl⟩)) | (go_at_call 36; first | (with_reducible refine (list_n _ _ M.tail q _ m HTN.out (Hid.out HQ) (Tail.ord (Hid.out (And.left ‹Hid (Tail w L E5 E7 D wc.heap.size E7 n a al kx cl M p _) ∧ _›))).2.2.2.2.2 (by omega)).mono ?_; rintro e w8 ⟨⟨g1, rfl, hb⟩, hF_⟩; have HR8 := Lib.hid hb; have hS' := (Tail.all (Tail.fr0 (Hid.out (And.left ‹Hid (Tail w L E5 E7 D wc.heap.size E7 n a al kx cl M p _) ∧ _›)) hF_)); clear hF_ hb) | (refine (list_n 0 0 [] none _ 0 rfl rfl (Nat.zero_le _) (by omega)).mono ?_; rintro e w8 ⟨⟨g1, rfl, hb⟩, hF_⟩; have hS' := (Tail.all (Tail.fr0 (Hid.out (And.left ‹Hid (Tail w L E5 E7 D wc.heap.size E7 n a al kx cl M p _) ∧ _›)) hF_)); clear hF_ hb)) | (go_at_call 35; refine (same_true _ _ _ _ _ m (Hid.out HR8) (RM.out _ (Tail.fr (Hid.out (And.left ‹Hid (Tail w L E5 E7 D wc.heap.size E7 n a al kx cl M p _) ∧ _›)))) HTL.out (by omega)).mono ?_; rintro e w9 ⟨rfl, hF_⟩; have hS' := (Tail.all (Tail.fr0 (Hid.out (And.left ‹Hid (Tail w L E5 E7 D wc.heap.size E7 n a al kx cl M p _) ∧ _›)) hF_)); clear hF_) | (go_at_call 37; refine (len_any 0 0 [] none _ rfl).mono ?_; rintro e w' ⟨rfl, rfl⟩))
      refine hK.out _ _ (by first | exact hS' | assumption) (fun hS' => ?_)
      try simp only [Act.put, List.setIfInBounds_toArray, List.set_cons_zero, List.set_cons_succ]
      repeat (first | (refine hl_on (o := ?_) (v := ?_) ?_ ?_ (fun w hSw => ?_) ?_; rotate_left 2; (focus ((simp only [List.getElem?_toArray, List.getElem?_cons_succ, List.getElem?_cons_zero]); (try rfl); done)); (focus (rfl)); (focus ((try dsimp only at hSw); go_simp; (try with_reducible rfl); done)); simp only [Act.put, List.setIfInBounds_toArray, List.set_cons_zero, List.set_cons_succ]) | (refine hl_off_light (o := ?_) ?_ ?_ ?_; rotate_left 1; (focus ((simp only [List.getElem?_toArray, List.getElem?_cons_succ, List.getElem?_cons_zero]); (try rfl); done)); (focus (rfl)); simp only [Act.put, List.setIfInBounds_toArray, List.set_cons_zero, List.set_cons_succ]) | fail)
      have hTb := (Hid.out (And.left ‹Hid (Tail w L E5 E7 D wc.heap.size E7 n a al kx cl M p _) ∧ _›))
      have hT := hTb.set true
      obtain ⟨u, hu⟩ := hTb.res
      have hB2 := hu.set 0 (.bool true)
      refine hl_heavy (o := ?_) ?_ ?_ (fun K hK => ?_)
      rotate_left 1
      (focus ((simp only [List.getElem?_toArray, List.getElem?_cons_succ, List.getElem?_cons_zero]); (try rfl); done))
      focus (rfl)
      go_simp
      (first | (go_at_call 32; refine (awake_any _).mono ?_; rintro e w' ⟨rfl, hF_⟩; have hS' := (Tail.all (Tail.fr0 (Hid.out (And.left ‹Hid (Tail w L E5 E7 D wc.heap.size E7 n a al kx cl M p _) ∧ _›)) hF_)); clear hF_) | (go_at_call 40; first | (with_reducible refine (rest_any _ _ M p _ (Tail.ch (Hid.out (And.left ‹Hid (Tail w L E5 E7 D wc.heap.size E7 n a al kx cl M p _) ∧ _›)))).mono ?_; rintro e w' ⟨⟨q, rfl, hq⟩, rfl⟩; have HQ := Lib.hid hq; clear hq) | (refine (rest_nil _).mono ?_; rintro e w' ⟨rfl, rfl⟩)) | (go_at_call 36; first | (with_reducible refine (list_n _ _ M.tail q _ m HTN.out (Hid.out HQ) (Tail.ord (Hid.out (And.left ‹Hid (Tail w L E5 E7 D wc.heap.size E7 n a al kx cl M p _) ∧ _›))).2.2.2.2.2 (by omega)).mono ?_; rintro e w8 ⟨⟨g1, rfl, hb⟩, hF_⟩; have HR8 := Lib.hid hb; have hS' := (Tail.all (Tail.fr0 (Hid.out (And.left ‹Hid (Tail w L E5 E7 D wc.heap.size E7 n a al kx cl M p _) ∧ _›)) hF_)); clear hF_ hb) | (refine (list_n 0 0 [] none _ 0 rfl rfl (Nat.zero_le _) (by omega)).mono ?_; rintro e w8 ⟨⟨g1, rfl, hb⟩, hF_⟩; have hS' := (Tail.all (Tail.fr0 (Hid.out (And.left ‹Hid (Tail w L E5 E7 D wc.heap.size E7 n a al kx cl M p _) ∧ _›)) hF_)); clear hF_ hb)) | (go_at_call 35; refine (same_true _ _ _ _ _ m (Hid.out HR8) (RM.out _ (Tail.fr (Hid.out (And.left ‹Hid (Tail w L E5 E7 D wc.heap.size E7 n a al kx cl M p _) ∧ _›)))) HTL.out (by omega)).mono ?_; rintro e w9 ⟨rfl, hF_⟩; have hS' := (Tail.all (Tail.fr0 (Hid.out (And.left ‹Hid (Tail w L E5 E7 D wc.heap.size E7 n a al kx cl M p _) ∧ _›)) hF_)); clear hF_) | (go_at_call 37; refine (len_any 0 0 [] none _ rfl).mono ?_; rintro e w' ⟨rfl, rfl⟩))
      refine hK.out _ _ (by first | exact hS' | assumption) (fun hS' => ?_)
      try simp only [Act.put, List.setIfInBounds_toArray, List.set_cons_zero, List.set_cons_succ]
      repeat (first | (refine hl_on (o := ?_) (v := ?_) ?_ ?_ (fun w hSw => ?_) ?_; rotate_left 2; (focus ((simp only [List.getElem?_toArray, List.getElem?_cons_succ, List.getElem?_cons_zero]); (try rfl); done)); (focus (rfl)); (focus ((try dsimp only at hSw); go_simp; (try with_reducible rfl); done)); simp only [Act.put, List.setIfInBounds_toArray, List.set_cons_zero, List.set_cons_succ]) | (refine hl_off_light (o := ?_) ?_ ?_ ?_; rotate_left 1; (focus ((simp only [List.getElem?_toArray, List.getElem?_cons_succ, List.getElem?_cons_zero]); (try rfl); done)); (focus (rfl)); simp only [Act.put, List.setIfInBounds_toArray, List.set_cons_zero, List.set_cons_succ]) | fail)
      have hTb := (Hid.out (And.left ‹Hid (Tail w L E5 E7 D wc.heap.size E7 n a al kx cl M p _) ∧ _›))
      have hT := hTb.set true
      obtain ⟨u, hu⟩ := hTb.res
      have hB2 := hu.set 0 (.bool true)
      refine hl_heavy (o := ?_) ?_ ?_ (fun K hK => ?_)
      rotate_left 1
      (focus ((simp only [List.getElem?_toArray, List.getElem?_cons_succ, List.getElem?_cons_zero]); (try rfl); done))
      focus (rfl)
      go_simp
      (first | (go_at_call 32; refine (awake_any _).mono ?_; rintro e w' ⟨rfl, hF_⟩; have hS' := (Tail.all (Tail.fr0 (Hid.out (And.left ‹Hid (Tail w L E5 E7 D wc.heap.size E7 n a al kx cl M p _) ∧ _›)) hF_)); clear hF_) | (go_at_call 40; first | (with_reducible refine (rest_any _ _ M p _ (Tail.ch (Hid.out (And.left ‹Hid (Tail w L E5 E7 D wc.heap.size E7 n a al kx cl M p _) ∧ _›)))).mono ?_; rintro e w' ⟨⟨q, rfl, hq⟩, rfl⟩; have HQ := Lib.hid hq; clear hq) | (refine (rest_nil _).mono ?_; rintro e w' ⟨rfl, rfl⟩)) | (go_at_call 36; first | (with_reducible refine (list_n _ _ M.tail q _ m HTN.out (Hid.out HQ) (Tail.ord (Hid.out (And.left ‹Hid (Tail w L E5 E7 D wc.heap.size E7 n a al kx cl M p _) ∧ _›))).2.2.2.2.2 (by omega)).mono ?_; rintro e w8 ⟨⟨g1, rfl, hb⟩, hF_⟩; have HR8 := Lib.hid hb; have hS' := (Tail.all (Tail.fr0 (Hid.out (And.left ‹Hid (Tail w L E5 E7 D wc.heap.size E7 n a al kx cl M p _) ∧ _›)) hF_)); clear hF_ hb) | (refine (list_n 0 0 [] none _ 0 rfl rfl (Nat.zero_le _) (by omega)).mono ?_; rintro e w8 ⟨⟨g1, rfl, hb⟩, hF_⟩; have hS' := (Tail.all (Tail.fr0 (Hid.out (And.left ‹Hid (Tail w L E5 E7 D wc.heap.size E7 n a al kx cl M p _) ∧ _›)) hF_)); clear hF_ hb)) | (go_at_call 35; refine (same_true _ _ _ _ _ m (Hid.out HR8) (RM.out _ (Tail.fr (Hid.out (And.left ‹Hid (Tail w L E5 E7 D wc.heap.size E7 n a al kx cl M p _) ∧ _›)))) HTL.out (by omega)).mono ?_; rintro e w9 ⟨rfl, hF_⟩; have hS' := (Tail.all (Tail.fr0 (Hid.out (And.left ‹Hid (Tail w L E5 E7 D wc.heap.size E7 n a al kx cl M p _) ∧ _›)) hF_)); clear hF_) | (go_at_call 37; refine (len_any 0 0 [] none _ rfl).mono ?_; rintro e w' ⟨rfl, rfl⟩))
      refine hK.out _ _ (by first | exact hS' | assumption) (fun hS' => ?_)
      try simp only [Act.put, List.setIfInBounds_toArray, List.set_cons_zero, List.set_cons_succ]
      repeat (first | (refine hl_on (o := ?_) (v := ?_) ?_ ?_ (fun w hSw => ?_) ?_; rotate_left 2; (focus ((simp only [List.getElem?_toArray, List.getElem?_cons_succ, List.getElem?_cons_zero]); (try rfl); done)); (focus (rfl)); (focus ((try dsimp only at hSw); go_simp; (try with_reducible rfl); done)); simp only [Act.put, List.setIfInBounds_toArray, List.set_cons_zero, List.set_cons_succ]) | (refine hl_off_light (o := ?_) ?_ ?_ ?_; rotate_left 1; (focus ((simp only [List.getElem?_toArray, List.getElem?_cons_succ, List.getElem?_cons_zero]); (try rfl); done)); (focus (rfl)); simp only [Act.put, List.setIfInBounds_toArray, List.set_cons_zero, List.set_cons_succ]) | fail)
      have hTb := (Hid.out (And.left ‹Hid (Tail w L E5 E7 D wc.heap.size E7 n a al kx cl M p _) ∧ _›))
      have hT := hTb.set true
      obtain ⟨u, hu⟩ := hTb.res
      have hB2 := hu.set 0 (.bool true)
      refine hl_heavy (o := ?_) ?_ ?_ (fun K hK => ?_)
      rotate_left 1
      (focus ((simp only [List.getElem?_toArray, List.getElem?_cons_succ, List.getElem?_cons_zero]); (try rfl); done))
      focus (rfl)
      go_simp
      (first | (go_at_call 32; refine (awake_any _).mono ?_; rintro e w' ⟨rfl, hF_⟩; have hS' := (Tail.all (Tail.fr0 (Hid.out (And.left ‹Hid (Tail w L E5 E7 D wc.heap.size E7 n a al kx cl M p _) ∧ _›)) hF_)); clear hF_) | (go_at_call 40; first | (with_reducible refine (rest_any _ _ M p _ (Tail.ch (Hid.out (And.left ‹Hid (Tail w L E5 E7 D wc.heap.size E7 n a al kx cl M p _) ∧ _›)))).mono ?_; rintro e w' ⟨⟨q, rfl, hq⟩, rfl⟩; have HQ := Lib.hid hq; clear hq) | (refine (rest_nil _).mono ?_; rintro e w' ⟨rfl, rfl⟩)) | (go_at_call 36; first | (with_reducible refine (list_n _ _ M.tail q _ m HTN.out (Hid.out HQ) (Tail.ord (Hid.out (And.left ‹Hid (Tail w L E5 E7 D wc.heap.size E7 n a al kx cl M p _) ∧ _›))).2.2.2.2.2 (by omega)).mono ?_; rintro e w8 ⟨⟨g1, rfl, hb⟩, hF_⟩; have HR8 := Lib.hid hb; have hS' := (Tail.all (Tail.fr0 (Hid.out (And.left ‹Hid (Tail w L E5 E7 D wc.heap.size E7 n a al kx cl M p _) ∧ _›)) hF_)); clear hF_ hb) | (refine (list_n 0 0 [] none _ 0 rfl rfl (Nat.zero_le _) (by omega)).mono ?_; rintro e w8 ⟨⟨g1, rfl, hb⟩, hF_⟩; have hS' := (Tail.all (Tail.fr0 (Hid.out (And.left ‹Hid (Tail w L E5 E7 D wc.heap.size E7 n a al kx cl M p _) ∧ _›)) hF_)); clear hF_ hb)) | (go_at_call 35; refine (same_true _ _ _ _ _ m (Hid.out HR8) (RM.out _ (Tail.fr (Hid.out (And.left ‹Hid (Tail w L E5 E7 D wc.heap.size E7 n a al kx cl M p _) ∧ _›)))) HTL.out (by omega)).mono ?_; rintro e w9 ⟨rfl, hF_⟩; have hS' := (Tail.all (Tail.fr0 (Hid.out (And.left ‹Hid (Tail w L E5 E7 D wc.heap.size E7 n a al kx cl M p _) ∧ _›)) hF_)); clear hF_) | (go_at_call 37; refine (len_any 0 0 [] none _ rfl).mono ?_; rintro e w' ⟨rfl, rfl⟩))
      refine hK.out _ _ (by first | exact hS' | assumption) (fun hS' => ?_)
      try simp only [Act.put, List.setIfInBounds_toArray, List.set_cons_zero, List.set_cons_succ]
      repeat (first | (refine hl_on (o := ?_) (v := ?_) ?_ ?_ (fun w hSw => ?_) ?_; rotate_left 2; (focus ((simp only [List.getElem?_toArray, List.getElem?_cons_succ, List.getElem?_cons_zero]); (try rfl); done)); (focus (rfl)); (focus ((try dsimp only at hSw); go_simp; (try with_reducible rfl); done)); simp only [Act.put, List.setIfInBounds_toArray, List.set_cons_zero, List.set_cons_succ]) | (refine hl_off_light (o := ?_) ?_ ?_ ?_; rotate_left 1; (focus ((simp only [List.getElem?_toArray, List.getElem?_cons_succ, List.getElem?_cons_zero]); (try rfl); done)); (focus (rfl)); simp only [Act.put, List.setIfInBounds_toArray, List.set_cons_zero, List.set_cons_succ]) | fail)
      have hTb := (Hid.out (And.left ‹Hid (Tail w L E5 E7 D wc.heap.size E7 n a al kx cl M p _) ∧ _›))
      have hT := hTb.set true
      obtain ⟨u, hu⟩ := hTb.res
      have hB2 := hu.set 0 (.bool true)
      refine hl_heavy (o := ?_) ?_ ?_ (fun K hK => ?_)
      rotate_left 1
      (focus ((simp only [List.getElem?_toArray, List.getElem?_cons_succ, List.getElem?_cons_zero]); (try rfl); done))
      focus (rfl)
      go_simp
      (first | (go_at_call 32; refine (awake_any _).mono ?_; rintro e w' ⟨rfl, hF_⟩; have hS' := (Tail.all (Tail.fr0 (Hid.out (And.left ‹Hid (Tail w L E5 E7 D wc.heap.size E7 n a al kx cl M p _) ∧ _›)) hF_)); clear hF_) | (go_at_call 40; first | (with_reducible refine (rest_any _ _ M p _ (Tail.ch (Hid.out (And.left ‹Hid (Tail w L E5 E7 D wc.heap.size E7 n a al kx cl M p _) ∧ _›)))).mono ?_; rintro e w' ⟨⟨q, rfl, hq⟩, rfl⟩; have HQ := Lib.hid hq; clear hq) | (refine (rest_nil _).mono ?_; rintro e w' ⟨rfl, rfl⟩)) | (go_at_call 36; first | (with_reducible refine (list_n _ _ M.tail q _ m HTN.out (Hid.out HQ) (Tail.ord (Hid.out (And.left ‹Hid (Tail w L E5 E7 D wc.heap.size E7 n a al kx cl M p _) ∧ _›))).2.2.2.2.2 (by omega)).mono ?_; rintro e w8 ⟨⟨g1, rfl, hb⟩, hF_⟩; have HR8 := Lib.hid hb; have hS' := (Tail.all (Tail.fr0 (Hid.out (And.left ‹Hid (Tail w L E5 E7 D wc.heap.size E7 n a al kx cl M p _) ∧ _›)) hF_)); clear hF_ hb) | (refine (list_n 0 0 [] none _ 0 rfl rfl (Nat.zero_le _) (by omega)).mono ?_; rintro e w8 ⟨⟨g1, rfl, hb⟩, hF_⟩; have hS' := (Tail.all (Tail.fr0 (Hid.out (And.left ‹Hid (Tail w L E5 E7 D wc.heap.size E7 n a al kx cl M p _) ∧ _›)) hF_)); clear hF_ hb)) | (go_at_call 35; refine (same_true _ _ _ _ _ m (Hid.out HR8) (RM.out _ (Tail.fr (Hid.out (And.left ‹Hid (Tail w L E5 E7 D wc.heap.size E7 n a al kx cl M p _) ∧ _›)))) HTL.out (by omega)).mono ?_; rintro e w9 ⟨rfl, hF_⟩; have hS' := (Tail.all (Tail.fr0 (Hid.out (And.left ‹Hid (Tail w L E5 E7 D wc.heap.size E7 n a al kx cl M p _) ∧ _›)) hF_)); clear hF_) | (go_at_call 37; refine (len_any 0 0 [] none _ rfl).mono ?_; rintro e w' ⟨rfl, rfl⟩))
      refine hK.out _ _ (by first | exact hS' | assumption) (fun hS' => ?_)
      try simp only [Act.put, List.setIfInBounds_toArray, List.set_cons_zero, List.set_cons_succ]
      repeat (first | (refine hl_on (o := ?_) (v := ?_) ?_ ?_ (fun w hSw => ?_) ?_; rotate_left 2; (focus ((simp only [List.getElem?_toArray, List.getElem?_cons_succ, List.getElem?_cons_zero]); (try rfl); done)); (focus (rfl)); (focus ((try dsimp only at hSw); go_simp; (try with_reducible rfl); done)); simp only [Act.put, List.setIfInBounds_toArray, List.set_cons_zero, List.set_cons_succ]) | (refine hl_off_light (o := ?_) ?_ ?_ ?_; rotate_left 1; (focus ((simp only [List.getElem?_toArray, List.getElem?_cons_succ, List.getElem?_cons_zero]); (try rfl); done)); (focus (rfl)); simp only [Act.put, List.setIfInBounds_toArray, List.set_cons_zero, List.set_cons_succ]) | fail)
      have hTb := (Hid.out (And.left ‹Hid (Tail w L E5 E7 D wc.heap.size E7 n a al kx cl M p _) ∧ _›))
      have hT := hTb.set true
      obtain ⟨u, hu⟩ := hTb.res
      have hB2 := hu.set 0 (.bool true)
      refine hl_heavy (o := ?_) ?_ ?_ (fun K hK => ?_)
      rotate_left 1
      (focus ((simp only [List.getElem?_toArray, List.getElem?_cons_succ, List.getElem?_cons_zero]); (try rfl); done))
      focus (rfl)
      go_simp
      (first | (go_at_call 32; refine (awake_any _).mono ?_; rintro e w' ⟨rfl, hF_⟩; have hS' := (Tail.all (Tail.fr0 (Hid.out (And.left ‹Hid (Tail w L E5 E7 D wc.heap.size E7 n a al kx cl M p _) ∧ _›)) hF_)); clear hF_) | (go_at_call 40; first | (with_reducible refine (rest_any _ _ M p _ (Tail.ch (Hid.out (And.left ‹Hid (Tail w L E5 E7 D wc.heap.size E7 n a al kx cl M p _) ∧ _›)))).mono ?_; rintro e w' ⟨⟨q, rfl, hq⟩, rfl⟩; have HQ := Lib.hid hq; clear hq) | (refine (rest_nil _).mono ?_; rintro e w' ⟨rfl, rfl⟩)) | (go_at_call 36; first | (with_reducible refine (list_n _ _ M.tail q _ m HTN.out (Hid.out HQ) (Tail.ord (Hid.out (And.left ‹Hid (Tail w L E5 E7 D wc.heap.size E7 n a al kx cl M p _) ∧ _›))).2.2.2.2.2 (by omega)).mono ?_; rintro e w8 ⟨⟨g1, rfl, hb⟩, hF_⟩; have HR8 := Lib.hid hb; have hS' := (Tail.all (Tail.fr0 (Hid.out (And.left ‹Hid (Tail w L E5 E7 D wc.heap.size E7 n a al kx cl M p _) ∧ _›)) hF_)); clear hF_ hb) | (refine (list_n 0 0 [] none _ 0 rfl rfl (Nat.zero_le _) (by omega)).mono ?_; rintro e w8 ⟨⟨g1, rfl, hb⟩, hF_⟩; have hS' := (Tail.all (Tail.fr0 (Hid.out (And.left ‹Hid (Tail w L E5 E7 D wc.heap.size E7 n a al kx cl M p _) ∧ _›)) hF_)); clear hF_ hb)) | (go_at_call 35; refine (same_true _ _ _ _ _ m (Hid.out HR8) (RM.out _ (Tail.fr (Hid.out (And.left ‹Hid (Tail w L E5 E7 D wc.heap.size E7 n a al kx cl M p _) ∧ _›)))) HTL.out (by omega)).mono ?_; rintro e w9 ⟨rfl, hF_⟩; have hS' := (Tail.all (Tail.fr0 (Hid.out (And.left ‹Hid (Tail w L E5 E7 D wc.heap.size E7 n a al kx cl M p _) ∧ _›)) hF_)); clear hF_) | (go_at_call 37; refine (len_any 0 0 [] none _ rfl).mono ?_; rintro e w' ⟨rfl, rfl⟩))
      refine hK.out _ _ (by first | exact hS' | assumption) (fun hS' => ?_)
      try simp only [Act.put, List.setIfInBounds_toArray, List.set_cons_zero, List.set_cons_succ]
      repeat (first | (refine hl_on (o := ?_) (v := ?_) ?_ ?_ (fun w hSw => ?_) ?_; rotate_left 2; (focus ((simp only [List.getElem?_toArray, List.getElem?_cons_succ, List.getElem?_cons_zero]); (try rfl); done)); (focus (rfl)); (focus ((try dsimp only at hSw); go_simp; (try with_reducible rfl); done)); simp only [Act.put, List.setIfInBounds_toArray, List.set_cons_zero, List.set_cons_succ]) | (refine hl_off_light (o := ?_) ?_ ?_ ?_; rotate_left 1; (focus ((simp only [List.getElem?_toArray, List.getElem?_cons_succ, List.getElem?_cons_zero]); (try rfl); done)); (focus (rfl)); simp only [Act.put, List.setIfInBounds_toArray, List.set_cons_zero, List.set_cons_succ]) | fail)
      have hTb := (Hid.out (And.left ‹Hid (Tail w L E5 E7 D wc.heap.size E7 n a al kx cl M p _) ∧ _›))
      have hT := hTb.set true
      obtain ⟨u, hu⟩ := hTb.res
      have hB2 := hu.set 0 (.bool true)
      refine hl_heavy (o := ?_) ?_ ?_ (fun K hK => ?_)
      rotate_left 1
      (focus ((simp only [List.getElem?_toArray, List.getElem?_cons_succ, List.getElem?_cons_zero]); (try rfl); done))
      focus (rfl)
      go_simp
      refine hK.out _ _ ((Tail.all (Tail.set (Hid.out (And.left ‹Hid (Tail w L E5 E7 D wc.heap.size E7 n a al kx cl M p _) ∧ _›)) _))) (fun hS' => ?_)
      clear hS'
      refine hl_done_np ?_
      go_wp2
      have hDw : w.heap.size ≤ D := by have := HWG.out.size; have := HDD.out; omega
      refine leaves_loop (v := .bool true) hT.mark ?_ ⟨rfl, hT.fr.taken hDw _⟩
      have hc := (hB2.taken hT.mark (.deferred none)).cell_at (o := 0) rfl
      simp [results, Try.f8, go_sem, hc]

end Go.Proofs.Ytcnoaflojojfkaa.Pers
