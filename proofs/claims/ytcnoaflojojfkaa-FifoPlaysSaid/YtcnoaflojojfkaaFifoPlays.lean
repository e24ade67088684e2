/- FifoPlays: whatever is put and taken, the first goes first, and there is room for so many: the walk of the law. No condition. -/
import Derived.Test.YtcnoaflojojfkaaFifo
namespace Go.Proofs.Ytcnoaflojojfkaa.FifoPlays
open Go.RowKit Go.Proofs.Ytcnoaflojojfkaa.Fifo
set_option linter.unusedVariables false
set_option linter.unusedSimpArgs false
set_option maxRecDepth 100000

/-- what holds at the head of each round -/
def Inv (w : World) (n : Nat) (p q : Nat) (ms : List Int) (a6 : Option Addr) (c6 : Nat) (wr : World) : Prop :=
  (∃ (fr : Nat) (cs : List Int), Ring wr p q n fr ms.length cs ∧ things cs n fr ms.length = ms) ∧ View wr w.heap.size 3 1 (.slice a6 ms.length c6) ms.length (ms.map (Value.int .i64)) ∧
  (∀ g, (Value.slice a6 ms.length c6).ownBlock = some g → g ≠ p ∧ g ≠ q) ∧ Fr [] w wr ∧ w.heap.size ≤ p ∧ w.heap.size ≤ q

theorem Inv.drewN {w : World} {n p q : Nat} {ms : List Int} {a6 : Option Addr} {c6 : Nat} {wr : World} (h : Inv w n p q ms a6 c6 wr) (k : Nat) : Inv w n p q ms a6 c6 (wr.drewN k) := by
  obtain ⟨⟨fr, cs, hR, hth⟩, hV, hown, hF, hp, hq⟩ := h
  exact ⟨⟨fr, cs, hR.fr ((Fr.refl [] _).drewN _) (by simp) (by simp), hth⟩, hV.drewN k, hown, hF.drewN k, hp, hq⟩
theorem Inv.put {w : World} {n p q : Nat} {ms : List Int} {a6 : Option Addr} {c6 : Nat} {wr w2 w3 : World} (h : Inv w n p q ms a6 c6 wr) {fr' : Nat} {cs' : List Int} {ms' : List Int} {a' : Option Addr} {c' : Nat}
    (hR : Ring w2 p q n fr' ms'.length cs') (hth : things cs' n fr' ms'.length = ms') (hF : Fr [p, q] wr w2)
    (hV : View w3 w.heap.size 3 1 (.slice a' ms'.length c') ms'.length (ms'.map (Value.int .i64))) (hg : w2.grownBy w3 (Value.slice a6 ms.length c6).ownBlock)
    (hat : (Value.slice a' ms'.length c').ownBlock = (Value.slice a6 ms.length c6).ownBlock ∨ ∀ g, (Value.slice a' ms'.length c').ownBlock = some g → w2.heap.size ≤ g) : Inv w n p q ms' a' c' w3 := by
  obtain ⟨_, hv, hown, hf, hp, hq⟩ := h
  have h1 := hR.top.lt
  have h2 := hR.row.lt
  refine ⟨⟨fr', cs', hR.fr (Fr.of_grown hg) (fun hm => ?_) (fun hm => ?_), hth⟩, hV, fun g hgg => ?_, (hf.trans hF (fun b hb => .inr (by simp at hb; omega))).grown hg (fun k hk => .inr (hv.lt hk).1), hp, hq⟩
  · simp at hm; exact (hown p hm).1 rfl
  · simp at hm; exact (hown q hm).2 rfl
  · rcases hat with h | h
    · exact hown g (h ▸ hgg)
    · have := h g hgg; omega

set_option maxHeartbeats 4000000 in
theorem walk (room : Int) (hroom : (Lit.int .i64 room).wf = true) (zs : List Int) (v1 : Value) {w : World} (hr1 : Reads w 1 v1 zs.length (zs.map (Value.int .i64))) (_hwf : ∀ x ∈ zs, (Lit.int .i64 x).wf = true) (hlen : zs.length * 8 ≤ 140737488351232) :
    Calls Try.prog 9 #[.int .i64 room, v1] w fun e w' => e = .returned (.bool true) ∧ Fr [] w w' := by
  obtain ⟨hl1, a1, c1, rfl, hc1, hcell⟩ := id hr1
  clear hl1
  obtain ⟨n, hn⟩ : ∃ n : Nat, (n : Int) = min (max room 1) 1024 := ⟨(min (max room 1) 1024).toNat, by omega⟩
  have HN := Lib.hid hn
  have hn1 : 1 ≤ n ∧ n ≤ 1024 := by omega
  clear hn
  have HR := Lib.hid hr1
  clear hcell hr1
  obtain ⟨i0, hi0, hz0, hz1, hz2⟩ := info_parts info_int
  go_enter Try.func9, Try.ntmps9
  go_wp2_with fail
  refine (new_any room n HN.out w).mono ?_
  rintro e w1 ⟨rfl, R1, F1⟩
  obtain ⟨p, hp⟩ : ∃ p, p = w.heap.size + 1 := ⟨_, rfl⟩
  obtain ⟨q, hq⟩ : ∃ q, q = w.heap.size := ⟨_, rfl⟩
  rw [← hp, ← hq] at R1
  rw [← hp]
  have HP : Hid (w.heap.size ≤ p ∧ w.heap.size ≤ q) := ⟨by omega, by omega⟩
  clear hp hq
  have RIN : Hid (Ring w1 p q n 0 0 (List.replicate n 0)) := R1
  have FIN : Hid (Fr [] w w1) := F1
  clear F1 R1
  go_upto_block 0 with (fail)
  rw [show imin (imax room 1) 1024 = (n : Int) from by rw [imin_eq, imax_eq]; exact HN.out.symm]
  go_cut [6, 8] (fun v6 v8 wc => ∃ (ms : List Int) (a6 : Option Addr) (c6 : Nat), ms.length ≤ 80 ∧ v6 = .slice a6 ms.length c6 ∧ Inv w n p q ms a6 c6 wc)
  case first =>
    go_wp2_with fail
    go_loopw [6, 8] (fun v6 v8 wr => ∃ (i : Nat) (ms : List Int) (a6 : Option Addr) (c6 : Nat), i ≤ zs.length ∧ i ≤ 80 ∧ ms.length ≤ i ∧ v6 = .slice a6 ms.length c6 ∧ v8 = .int .i64 i ∧ Inv w n p q ms a6 c6 wr) (fun _ v8 _ => zs.length - (intOf v8).toNat)
    case atStart =>
      refine ⟨0, [], some ⟨w1.heap.size, 0, none⟩, 0, by omega, by omega, by simp, rfl, rfl, ⟨⟨0, _, RIN.out.fr ((Fr.refl [] _).alloc _) (by simp) (by simp), rfl⟩, ?_, ?_, FIN.out.alloc _, HP.out.1, HP.out.2⟩⟩
      · exact View.of_blk (Blk.new w1 [] _) FIN.out.size rfl (by simp)
      · intro g hg
        have h1 := RIN.out.top.lt
        have h2 := RIN.out.row.lt
        simp [Value.ownBlock] at hg
        omega
    case round =>
      obtain ⟨i, ms, a6, c6, hi, h80, hmi, rfl, rfl, hI⟩ := hrel
      have HI : Hid (Inv w n p q ms a6 c6 wr) := hI
      clear hI
      by_cases hlt : i < zs.length ∧ i < 80
      · obtain ⟨hlt, hlt80⟩ := hlt
        have hc8 : decide ((i : Int) < 80) = true := decide_eq_true (by omega)
        obtain ⟨z, hz⟩ : ∃ z, zs[i]? = some z := ⟨zs[i], by simp [hlt]⟩
        obtain ⟨b1, o1, rfl, hcl⟩ : ∃ b o, a1 = some ⟨b, o, none⟩ ∧ w.cell? ⟨b, o + i, none⟩ = some (.int .i64 z) := by
          have hR := HR.out
          obtain ⟨_, a, c, h1, _, h | ⟨b, o, h2, h⟩⟩ := hR
          · rw [List.map_eq_nil_iff] at h; rw [h] at hlt; simp at hlt
          · simp at h1
            exact ⟨b, o, by rw [h1.1, h2], h i _ (by simp [hz])⟩
        clear hz
        have hb1 : b1 < w.heap.size := World.block_lt_of_cell? w _ hcl
        have HW1 : Hid (∀ S wx, Fr S w wx → (∀ b ∈ S, w.heap.size ≤ b) → wx.cell? ⟨b1, o1 + i, none⟩ = some (.int .i64 z)) := fun S wx hf hs => hf.cell hcl (fun hm => by have := hs b1 hm; have : b1 < w.heap.size := hb1; omega)
        clear hcl
        have hcr := HW1.out _ _ HI.out.2.2.2.1 (by simp)
        go_upto_if 41 with (fail)
        go_cut [6] (fun v6 wc => ∃ (ms' : List Int) (a' : Option Addr) (c' : Nat), ms'.length ≤ i + 1 ∧ v6 = .slice a' ms'.length c' ∧ Inv w n p q ms' a' c' wc)
        case first =>
          obtain ⟨⟨fr, cs, hR, hth⟩, hV, hown, hF, hp, hq⟩ := id HI.out
          have HRi : Hid (Ring wr p q n fr ms.length cs) := hR
          have HTH : Hid (things cs n fr ms.length = ms) := hth
          have HV : Hid (View wr w.heap.size 3 1 (.slice a6 ms.length c6) ms.length (ms.map (Value.int .i64))) := hV
          have HW : Hid (∀ g, (Value.slice a6 ms.length c6).ownBlock = some g → g ≠ p ∧ g ≠ q) := hown
          have hmost := hR.most
          have hBL : b1 ≠ p ∧ b1 ≠ q := by omega
          have HSZ : Hid (w.heap.size ≤ wr.heap.size) := hF.size
          clear hR hth hV hown hF hp hq
          by_cases hb : 0 < bits .and .i64 z 3
          · by_cases hfull : ms.length = n
            · have hl : decide (ms.length < n) = false := decide_eq_false (by omega)
              have HFU : Hid (ms.length = n) := hfull
              clear hfull
              go_wp2_with (first | (go_at_call 42; refine (push_full p q n fr ms.length cs z _ HRi.out HFU.out).mono ?_; rintro e w' ⟨rfl, rfl⟩))
              go_meet
              case rel => exact ⟨ms, a6, c6, by omega, rfl, HI.out⟩
            · have hroom : ms.length < n := by omega
              have hl : decide (ms.length < n) = true := decide_eq_true (by omega)
              clear hfull
              go_wp2_with (first | (go_at_call 42; refine (push_room p q n fr ms.length cs z _ HRi.out hroom).mono ?_; rintro e w2 ⟨rfl, hR2, hF2⟩; have HR2 := Lib.hid hR2; have HF2 := Lib.hid hF2; clear hR2; have hcr2 := hF2.cell hcr (by have := HW1.out; have := hBL; simp; omega); clear hF2) | (at_builtin; refine wpList_append_view _ rfl _ _ 35 rfl w.heap.size 3 i0 (.int .i64 0) 1 8 Try.underlying35 hi0 hz0 hz1 hz2 rfl _ _ ms.length _ rfl ((HV.out.fr HF2.out (fun g hg => by have := HW.out g hg; simp; omega)).alloc _) _ 1 [.int .i64 z] rfl (reads_one _ _ _) (by simp [Value.oneCell']) (by unfold maxLen; omega) (by omega) (by have := HSZ.out; have := HF2.out.size; simp; omega) ?_; intro a' c' w' hv' hg' hat'; have HV' := Lib.hid hv'; have HG' := Lib.hid hg'; have HAT := Lib.hid hat'; clear hv' hg' hat'))
              go_meet
              case rel =>
                refine ⟨ms ++ [z], a', c', by simp; omega, by simp, ?_⟩
                refine HI.out.put (w2 := w2.alloc (.cells #[.int .i64 z] 3)) (fr' := fr) (cs' := cs.set ((fr + ms.length) % n) z) ?_ ?_ (HF2.out.alloc _) ?_ HG'.out ?_
                · have := HR2.out.fr ((Fr.refl [] _).alloc (.cells #[.int .i64 z] 3)) (by simp) (by simp)
                  simpa using this
                · rw [List.length_append, List.length_singleton, things_push cs n fr ms.length z HRi.out.len (by omega) hroom, HTH.out]
                · simpa using HV'.out
                · rcases HAT.out with h | h
                  · left; simpa using h
                  · right; intro g hg; rw [List.length_append, List.length_singleton, h] at hg; simp at hg; simp; omega
          · cases ms with
            | nil =>
              have h2 : Hid (wr.cell? ⟨p, 2, none⟩ = some (.int .i64 (0 : Nat))) := HRi.out.top.cell_at (o := 2) rfl
              go_wp2_with (first | (go_at_call 43; refine (pop_none p _ _ (.inr ⟨rfl, h2.out⟩)).mono ?_; rintro e w' ⟨rfl, rfl⟩))
              go_meet
              case rel => exact ⟨[], a6, c6, by simp, rfl, HI.out⟩
            | cons m0 rest =>
              have hm0 : Hid (cs.getD fr 0 = m0) := by
                have h := congrArg (fun l : List Int => l[0]?) HTH.out
                simp only [things_get cs n fr (m0 :: rest).length 0 (by simp), List.getElem?_cons_zero, Option.some.injEq, Nat.add_zero, Nat.mod_eq_of_lt HRi.out.from_lt] at h
                exact h
              have HPOP := pop_some p q n fr rest.length cs wr HRi.out
              rw [hm0.out] at HPOP
              have HPOP := Lib.hid HPOP
              obtain ⟨_, a, c, h1, _, h | ⟨g6, o6, h2, h⟩⟩ := HV.out.reads
              · simp at h
              simp only [Value.slice.injEq, true_and] at h1
              obtain ⟨rfl, rfl⟩ := h1
              subst h2
              have hc6 : wr.cell? ⟨g6, o6, none⟩ = some (.int .i64 m0) := h 0 _ rfl
              have hG6 : Hid (g6 ≠ p ∧ g6 ≠ q) := HW.out g6 rfl
              clear h
              go_wp2_with (first | (go_at_call 43; refine HPOP.out.mono ?_; rintro e w2 ⟨rfl, hR2, hF2⟩; have HR2 := Lib.hid hR2; have HF2 := Lib.hid hF2; clear hR2; have hc62 := hF2.cell hc6 (by have := hG6.out; simp; omega); clear hF2) | ((with_reducible refine gate_slice rfl ?_); refine wpList_cut_view _ rfl _ _ 35 rfl w.heap.size 3 i0 1 Try.underlying35 hi0 hz1 _ _ (rest.length + 1) _ rfl (HV.out.fr HF2.out (fun g hg => by have := HW.out g hg; simp; omega)) .i64 1 rfl (by omega) ?_; intro a' c' hv' hat'; have HV' := Lib.hid hv'; have HAT := Lib.hid hat'; clear hv' hat'))
              go_meet
              case rel =>
                refine ⟨rest, a', c', by simp at hmi; omega, rfl, HI.out.put (w2 := w2) HR2.out ?_ HF2.out (by simpa using HV'.out) (World.grownBy.refl _ _) (.inl (by simpa using HAT.out))⟩
                rw [things_pop cs n fr rest.length 0 HRi.out.len (by omega) (by simp at hmost; omega) HRi.out.from_lt, show rest.length + 1 = (m0 :: rest).length from rfl, HTH.out]; rfl
        case rest =>
          obtain ⟨ms', a', c', hmi', rfl, hI'⟩ := hcut
          obtain ⟨⟨fr, cs, hR, hth⟩, hV, hown, hF, hp, hq⟩ := id hI'
          have HI' : Hid (Inv w n p q ms' a' c' wc) := hI'
          have HRi : Hid (Ring wc p q n fr ms'.length cs) := hR
          have HTH : Hid (things cs n fr ms'.length = ms') := hth
          have HV : Hid (View wc w.heap.size 3 1 (.slice a' ms'.length c') ms'.length (ms'.map (Value.int .i64))) := hV
          have hmost := hR.most
          have h0 : wc.cell? ⟨p, 0, none⟩ = some (.slice (some ⟨q, 0, none⟩) n n) := hR.top.cell_at rfl
          have h2 : wc.cell? ⟨p, 2, none⟩ = some (.int .i64 ms'.length) := hR.top.cell_at rfl
          clear hI' hR hth hV hown hF hp hq HI
          cases ms' with
          | nil =>
            have hfull : ((0 : Int) == (n : Int)) = false := by rw [beq_eq_false_iff_ne]; omega
            go_wp2_with (first | (go_at_call 44; refine (peek_none p _ _ (.inr ⟨rfl, h2⟩)).mono ?_; rintro e w' ⟨rfl, rfl⟩) | (go_at_call 45; refine (last_none p _ h2).mono ?_; rintro e w' ⟨rfl, rfl⟩) | (go_at_call 46; refine (len_any p 0 _ h2).mono ?_; rintro e w' ⟨rfl, rfl⟩) | (go_at_call 47; refine (full_any p n n 0 _ false (by simp; omega) _ h0 h2).mono ?_; rintro e w' ⟨rfl, rfl⟩) | (go_at_call 48; refine (room_any p n n _ _ h0).mono ?_; rintro e w' ⟨rfl, rfl⟩))
            go_roundw
            case rel => exact ⟨i + 1, [], a', c', by omega, by omega, by simp, rfl, by go_num, HI'.out⟩
            case measure => simp [intOf]; omega
          | cons m0 rest =>
            obtain ⟨y, hy⟩ : ∃ y, (m0 :: rest)[rest.length]? = some y := ⟨(m0 :: rest)[rest.length]'(by simp), by simp⟩
            have HPK : Hid (∀ W, Ring W p q n fr (m0 :: rest).length cs → Calls Try.prog 44 #[.pointer (some ⟨p, 0, none⟩)] W fun e w' => e = .returned (.tuple #[.int .i64 m0, .bool true]) ∧ ∃ k, w' = W.drewN k) := by
              intro W hW
              have h := congrArg (fun l : List Int => l[0]?) HTH.out
              simp only [things_get cs n fr (m0 :: rest).length 0 (by simp), List.getElem?_cons_zero, Option.some.injEq, Nat.add_zero, Nat.mod_eq_of_lt HRi.out.from_lt] at h
              rw [← h]
              exact peek_some p q n fr _ cs W hW (by simp)
            have HLA : Hid (∀ W, Ring W p q n fr (m0 :: rest).length cs → Calls Try.prog 45 #[.pointer (some ⟨p, 0, none⟩)] W fun e w' => e = .returned (.tuple #[.int .i64 y, .bool true]) ∧ ∃ k, w' = W.drewN k) := by
              intro W hW
              have h := congrArg (fun l : List Int => l[rest.length]?) HTH.out
              simp only [things_get cs n fr (m0 :: rest).length rest.length (by simp), hy, Option.some.injEq] at h
              rw [← h]
              exact last_some p q n fr _ cs W hW
            have HY := Lib.hid hy
            clear hy
            obtain ⟨_, a, c, h1, _, h | ⟨g6, o6, h2', h⟩⟩ := HV.out.reads
            · simp at h
            simp only [Value.slice.injEq, true_and] at h1
            obtain ⟨rfl, rfl⟩ := h1
            subst h2'
            have hc0 : wc.cell? ⟨g6, o6, none⟩ = some (.int .i64 m0) := h 0 _ rfl
            have hc1 : wc.cell? ⟨g6, o6 + rest.length, none⟩ = some (.int .i64 y) := h rest.length _ (by rw [List.getElem?_map, HY.out]; rfl)
            have hrl : rest.length < 80 := by simp at hmi'; omega
            clear h
            have HQR : Hid (∀ k, Ring (wc.drewN k) p q n fr (m0 :: rest).length cs) := fun k => HRi.out.fr ((Fr.refl [] _).drewN _) (by simp) (by simp)
            go_wp2_with fail
            refine (HPK.out _ HRi.out).mono ?_
            rintro e w2 ⟨rfl, k1, rfl⟩
            go_wp2_with fail
            refine (HLA.out _ (HQR.out _)).mono ?_
            rintro e w3 ⟨rfl, k2, rfl⟩
            go_wp2_with (first | (go_at_call 46; refine (len_any p (rest.length + 1) _ (by exact h2)).mono ?_; rintro e w' ⟨rfl, rfl⟩) | (go_at_call 47; refine (full_any p n n (rest.length + 1) _ (((rest.length : Int) + 1) == (n : Int)) (by rw [Bool.eq_iff_iff]; simp; omega) _ (by exact h0) (by exact h2)).mono ?_; rintro e w' ⟨rfl, rfl⟩) | (go_at_call 48; refine (room_any p n n _ _ (by exact h0)).mono ?_; rintro e w' ⟨rfl, rfl⟩))
            go_roundw
            case rel => exact ⟨i + 1, m0 :: rest, _, c', by omega, by omega, hmi', rfl, by go_num, HI'.out.drewN _⟩
            case measure => simp [intOf]; omega
      · by_cases hi2 : i < zs.length
        · have hc8 : decide ((i : Int) < 80) = false := decide_eq_false (by omega)
          clear hlt
          go_wp2_with fail
          go_meet
          case rel => exact ⟨ms, a6, c6, by omega, rfl, HI.out⟩
        · clear hlt
          go_wp2_with fail
          go_meet
          case rel => exact ⟨ms, a6, c6, by omega, rfl, HI.out⟩
  case rest =>
    obtain ⟨ms, a6, c6, hms, rfl, hI⟩ := hcut
    obtain ⟨⟨fr, cs, hR, hth⟩, hV, hown, hF, hp, hq⟩ := hI
    have HTH : Hid (things cs n fr ms.length = ms) := hth
    have HRi : Hid (∀ k, Ring (wc.drewN k) p q n fr ms.length cs) := fun k => hR.fr ((Fr.refl [] _).drewN _) (by simp) (by simp)
    have hmost := hR.most
    have HF : Hid (Fr [] w wc) := hF
    have h2 : wc.cell? ⟨p, 2, none⟩ = some (.int .i64 ms.length) := hR.top.cell_at rfl
    have HV : Hid (View wc w.heap.size 3 1 (.slice a6 ms.length c6) ms.length (ms.map (Value.int .i64))) := hV
    clear hth hR hF hV hown hp hq
    go_wp2_with fail
    go_loopw [15] (fun v wx => ∃ (j k : Nat), j ≤ ms.length ∧ v = .int .i64 j ∧ wx = wc.drewN k) (fun v _ => ms.length - (intOf v).toNat)
    case atStart => exact ⟨0, 0, Nat.zero_le _, rfl, rfl⟩
    case round =>
      obtain ⟨j, k, hj, rfl, rfl⟩ := hrel
      by_cases hjl : j < ms.length
      · obtain ⟨y, hy⟩ : ∃ y, ms[j]? = some y := ⟨ms[j], by simp [hjl]⟩
        have HAT : Hid (Calls Try.prog 49 #[.pointer (some ⟨p, 0, none⟩), .int .i64 j] (wc.drewN k) fun e w' => e = .returned (.tuple #[.int .i64 y, .bool true]) ∧ ∃ k', w' = (wc.drewN k).drewN k') := by
          have h := congrArg (fun l : List Int => l[j]?) HTH.out
          simp only [things_get cs n fr ms.length j hjl, hy, Option.some.injEq] at h
          rw [← h]
          exact at_in p q n fr ms.length cs j _ (HRi.out _) hjl
        obtain ⟨_, a, c, h1, _, h | ⟨g6, o6, h2', h⟩⟩ := HV.out.reads
        · rw [List.map_eq_nil_iff] at h; rw [h] at hjl; simp at hjl
        simp only [Value.slice.injEq, true_and] at h1
        obtain ⟨rfl, rfl⟩ := h1
        subst h2'
        have hcj : wc.cell? ⟨g6, o6 + j, none⟩ = some (.int .i64 y) := h j _ (by rw [List.getElem?_map, hy]; rfl)
        clear h hy
        go_wp2_with fail
        refine HAT.out.mono ?_
        rintro e w2 ⟨rfl, k2, rfl⟩
        go_wp2
        go_roundw
        case rel => exact ⟨j + 1, _, by omega, by go_num, rfl⟩
        case measure => simp [intOf]; omega
      · go_wp2_with fail
        refine (at_out p ms.length _ _ _ (.inr ⟨rfl, by exact h2⟩) (.inr (by omega)) (fun h => by cases h)).mono ?_
        rintro e w2 ⟨rfl, rfl⟩
        go_wp2_with fail
        refine (awake_any _).mono ?_
        rintro e w3 ⟨rfl, hF3⟩
        have HF3 : Hid (Fr [] w w3) := (HF.out.drewN k).trans0 hF3
        have HR3 : Hid (Ring w3 p q n fr ms.length cs) := (HRi.out k).fr hF3 (by simp) (by simp)
        clear hF3
        go_wp2_with fail
        refine (clear_any p q n fr ms.length cs _ HR3.out).mono ?_
        rintro e w4 ⟨rfl, ⟨fr', cs', hR4⟩, hF4⟩
        have HF4 : Hid (Fr [] w w4) := HF3.out.trans hF4 (fun b hb => by have := HP.out; right; simp at hb; omega)
        have h4 : w4.cell? ⟨p, 2, none⟩ = some (.int .i64 (0 : Nat)) := hR4.top.cell_at rfl
        clear hF4 hR4
        go_wp2_with (first | (go_at_call 46; refine (len_any p 0 _ h4).mono ?_; rintro e w' ⟨rfl, rfl⟩))
        go_ret
        exact ⟨rfl, HF4.out⟩
end Go.Proofs.Ytcnoaflojojfkaa.FifoPlays
