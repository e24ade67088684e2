/- AlignPlays: up to when all parts know all is the earliest of theirs; parts go on to later times alone: the walk of the law. No condition. -/
import Derived.Test.YtcnoaflojojfkaaAlign
import Derived.Test.YtcnoaflojojfkaaBits
import Derived.Deep.RegionHeld3
namespace Go.Proofs.Ytcnoaflojojfkaa.AlignPlays
open Go.RowKit Go.Proofs.Ytcnoaflojojfkaa.Mark Go.Proofs.Ytcnoaflojojfkaa.Align
set_option linter.unusedVariables false
set_option linter.unusedSimpArgs false
set_option maxRecDepth 100000

theorem info_int64 : (Try.prog.info? 2).map (fun i => (i.zero, i.size, i.bytes)) = some (some (.int .i64 0), 1, 8) := by kernel_rfl
theorem made_int64 (w : World) (n : Nat) : (w.alloc (.cells (madeCells (Value.int .i64 0).cells (n * 1)).toList.toArray 2)) = w.alloc (.cells (List.replicate n (Value.int .i64 0)).toArray 2) := by
  have e : (Value.int .i64 0).cells = #[Value.int .i64 0] := rfl
  rw [e, Nat.mul_one, toList_madeCells_one]

/-- pairs of numbers, as cells -/
def cells2 (ps : List (Int × Int)) : List Value := ps.flatMap fun p => [.int .i64 p.1, .int .i64 p.2]
theorem cells2_get {ps : List (Int × Int)} {i : Nat} {p : Int × Int} (h : ps[i]? = some p) : (cells2 ps)[i * 2]? = some (.int .i64 p.1) ∧ (cells2 ps)[i * 2 + 1]? = some (.int .i64 p.2) := by
  induction ps generalizing i with
  | nil => cases h
  | cons q ps ih =>
    cases i with
    | zero =>
      simp at h; subst h
      exact ⟨rfl, rfl⟩
    | succ i =>
      have e : cells2 (q :: ps) = .int .i64 q.1 :: .int .i64 q.2 :: cells2 ps := rfl
      have := ih (by simpa using h)
      rw [e, show (i + 1) * 2 = i * 2 + 1 + 1 by omega]
      simpa using this

/-- what is wanted of a call of To, and what becomes of the marks -/
def want (ats : List Int) (k t : Int) : Int × List Int :=
  if h : 0 ≤ k ∧ k < ats.length then ((toMark (ats[k.toNat]'(by omega)) t).2, ats.set k.toNat (toMark (ats[k.toNat]'(by omega)) t).1) else (1, ats)
theorem want_out {ats : List Int} {k t : Int} (h : k < 0 ∨ (ats.length : Int) ≤ k) : want ats k t = (1, ats) := by unfold want; rw [dif_neg (by omega)]
theorem want_in {ats : List Int} {k : Nat} {t a : Int} (h : ats[k]? = some a) : want ats k t = ((toMark a t).2, ats.set k (toMark a t).1) := by
  obtain ⟨hk, rfl⟩ := List.getElem?_eq_some_iff.1 h
  unfold want
  rw [dif_pos (by omega)]
  simp

theorem want_len (ats : List Int) (k t : Int) : (want ats k t).2.length = ats.length := by
  unfold want; split <;> simp
theorem to_want (b g : Nat) (ats : List Int) (k t : Int) (W : World) (h : Al W b g ats) : Calls Try.prog 55 #[.pointer (some ⟨b, 0, none⟩), .int .i64 k, .int .i64 t] W fun e w' => e = .returned (.int .i64 (want ats k t).1) ∧ Al w' b g (want ats k t).2 ∧ Fr [b, g] W w' := by
  by_cases hk : k < 0 ∨ (ats.length : Int) ≤ k
  · rw [want_out hk]
    exact (to_out b g ats k t W h hk).mono fun e w' ⟨he, hw⟩ => by subst hw; exact ⟨he, h, Fr.refl _ _⟩
  · obtain ⟨j, rfl⟩ := Int.eq_ofNat_of_zero_le (show 0 ≤ k by omega)
    have hj : j < ats.length := by omega
    rw [want_in (List.getElem?_eq_getElem hj)]
    exact to_in b g ats j _ t W h (List.getElem?_eq_getElem hj)

/-- the loop's running least -/
theorem run_least {ats : List Int} {a0 : Int} (h0 : ats[0]? = some a0) : low a0 ats = earliest ats := by
  cases ats with
  | nil => cases h0
  | cons a l =>
    simp at h0; subst h0
    obtain ⟨h1, h2, h3⟩ := low_le (a :: l) a
    symm
    refine early_is _ _ ?_ h2
    rcases h3 with h3 | h3
    · rw [h3]; simp
    · exact h3
theorem behind_get {ats : List Int} {m : Int} {j n : Nat} (hj : j < n) (h : ats[j]? = some m) : (behind ats m n)[(behind ats m j).length]? = some (j : Int) := by
  have key : ∀ d, (behind ats m (j + 1 + d))[(behind ats m j).length]? = some (j : Int) := by
    intro d
    induction d with
    | zero => rw [Nat.add_zero, behind_succ, if_pos h]; simp
    | succ d ih =>
      have hl : (behind ats m j).length < (behind ats m (j + 1 + d)).length := (List.getElem?_eq_some_iff.1 ih).1
      rw [← Nat.add_assoc, behind_succ]
      split
      · rw [List.getElem?_append_left hl]; exact ih
      · exact ih
  have := key (n - (j + 1))
  rwa [show j + 1 + (n - (j + 1)) = n by omega] at this

/-- what holds at the head of each round: the align at p, q; the law's own marks at r -/
structure Inv (w : World) (n p q r : Nat) (ats : List Int) (wr : World) : Prop where
  al : Al wr p q ats
  own : Blk wr r (ats.map (Value.int .i64)) 2
  len : ats.length = n
  fr : Fr [] w wr
  big : w.heap.size ≤ p ∧ w.heap.size ≤ q ∧ w.heap.size ≤ r
  ne : r ≠ p ∧ r ≠ q
theorem Inv.fr0 {w : World} {n p q r : Nat} {ats : List Int} {wr wx : World} (h : Inv w n p q r ats wr) (hf : Fr [] wr wx) : Inv w n p q r ats wx :=
  ⟨h.al.fr hf (by simp) (by simp), h.own.fr hf (by simp), h.len, h.fr.trans0 hf, h.big, h.ne⟩

set_option maxHeartbeats 8000000 in
theorem walk (parts : Int) (_wp : (Lit.int .i64 parts).wf = true) (ps : List (Int × Int)) (v1 : Value) {w : World} (hr1 : Reads w 2 v1 ps.length (cells2 ps)) (hlen : ps.length * 16 ≤ 140737488351232) :
    Calls Try.prog 11 #[.int .i64 parts, v1] w fun e w' => e = .returned (.bool true) ∧ Fr [] w w' := by
  obtain ⟨hl1, a1, c1, rfl, hc1, hcell⟩ := id hr1
  clear hl1
  have HR := Lib.hid hr1
  clear hcell hr1 _wp
  obtain ⟨n, hn⟩ : ∃ n : Nat, (n : Int) = min (max parts 1) 64 := ⟨(min (max parts 1) 64).toNat, by omega⟩
  have hn8 : 1 ≤ n ∧ n ≤ 64 := by omega
  have HN := Lib.hid hn
  clear hn
  obtain ⟨i0, hi0, hz0, hz1, hz2⟩ := info_parts info_int64
  have hm : n ≤ maxLen := by unfold maxLen; omega
  go_enter Try.func11, Try.ntmps11
  go_wp2_with fail
  refine (new_any parts n HN.out _).mono ?_
  rintro e w1 ⟨rfl, R1, F1⟩
  obtain ⟨p, hp⟩ : ∃ p, p = w.heap.size + 1 := ⟨_, rfl⟩
  obtain ⟨q, hq⟩ : ∃ q, q = w.heap.size := ⟨_, rfl⟩
  rw [← hp, ← hq] at R1
  rw [← hp]
  have HP : Hid (w.heap.size ≤ p ∧ w.heap.size ≤ q ∧ p < w1.heap.size ∧ q < w1.heap.size) := ⟨by omega, by omega, R1.top.lt, R1.row.lt⟩
  clear hp hq
  have RIN := Lib.hid R1
  have FIN := Lib.hid F1
  clear F1 R1
  go_upto_region 3 with (fail)
  rw [show imin (imax parts 1) 64 = (n : Int) from by rw [imin_eq, imax_eq]; exact HN.out.symm]
  go_wp2_with (first | (at_make; refine wpList_make_blk _ rfl _ _ _ rfl 2 i0 (.int .i64 0) 1 8 Try.underlying22 hi0 hz0 hz1 hz2 .i64 .i64 _ _ n rfl rfl rfl rfl (by omega) hm ?_; rw [made_int64]))
  go_loopw [8] (fun v8 wr => ∃ (i : Nat), i ≤ n ∧ v8 = .int .i64 i ∧ Blk wr w1.heap.size ((List.replicate i (-1) ++ List.replicate (n - i) 0).map (Value.int .i64)) 2 ∧ Fr [w1.heap.size] w1 wr) (fun v8 _ => n - (intOf v8).toNat)
  case atStart =>
    refine ⟨0, by omega, rfl, ?_, ?_⟩
    · have := Blk.new w1 (List.replicate n (Value.int .i64 0)) 2
      simpa using this
    · exact (Fr.refl _ _).alloc _
  case round =>
    obtain ⟨i, hi, rfl, hB, hF⟩ := hrel
    by_cases hlt : i < n
    · have hci : wr.cell? ⟨w1.heap.size, i, none⟩ = some (.int .i64 0) := hB.cell_at (by
        rw [List.getElem?_map, List.getElem?_append_right (by simp), List.length_replicate, Nat.sub_self, List.getElem?_replicate, if_pos (by omega)]; rfl)
      have hfz := hB.thawed
      have HB := Lib.hid hB
      have HF := Lib.hid hF
      clear hB hF
      go_wp2_with fail
      go_roundw
      case rel =>
        refine ⟨i + 1, by omega, by go_num, ?_, HF.out.set (by simp) _⟩
        have := HB.out.set i (.int .i64 (-1))
        rw [← List.map_set] at this
        have e : (List.replicate i (-1 : Int) ++ List.replicate (n - i) 0).set i (-1) = List.replicate (i + 1) (-1) ++ List.replicate (n - (i + 1)) 0 := by
          rw [List.set_append_right _ _ (by simp)]
          obtain ⟨d, hd⟩ : ∃ d, n - i = d + 1 := ⟨n - i - 1, by omega⟩
          rw [hd, show n - (i + 1) = d by omega, List.replicate_succ (n := d), List.replicate_succ' (n := i)]
          simp
        rw [e] at this; exact this
      case measure => simp [intOf]; omega
    · obtain rfl : n = i := by omega
      have HI0 : Hid (Inv w n p q w1.heap.size (List.replicate n (-1)) wr) := by
        refine ⟨RIN.out.fr hF (by have := HP.out; simp; omega) (by have := HP.out; simp; omega), by simpa using hB, by simp, FIN.out.trans hF (fun b hb => by have := FIN.out.size; simp at hb; right; omega), ⟨HP.out.1, HP.out.2.1, FIN.out.size⟩, ?_⟩
        have := HP.out; omega
      clear hB hF
      have HPA : Hid (∀ W ats, Al W p q ats → Calls Try.prog 54 #[.pointer (some ⟨p, 0, none⟩)] W fun e w' => e = .returned (.int .i64 ats.length) ∧ W = w') := fun W ats hW => parts_al p q ats W hW
      go_wp2_with fail
      refine (HPA.out _ _ HI0.out.al).mono ?_
      rintro e w' ⟨rfl, rfl⟩
      rw [List.length_replicate]
      go_wp2_with fail
      go_loopw [9] (fun v9 wx => ∃ (i : Nat) (ats : List Int), i ≤ ps.length ∧ i ≤ 60 ∧ v9 = .int .i64 i ∧ Inv w n p q w1.heap.size ats wx) (fun v9 _ => ps.length - (intOf v9).toNat)
      case atStart => exact ⟨0, _, by omega, by omega, rfl, HI0.out⟩
      case round =>
        obtain ⟨i, ats, hi, h60, rfl, hI⟩ := hrel
        have HI := Lib.hid hI
        clear hI HI0
        by_cases hlt : i < ps.length ∧ i < 60
        · obtain ⟨hlt, hlt60⟩ := hlt
          have hc8 : decide ((i : Int) < 60) = true := decide_eq_true (by omega)
          obtain ⟨x, hx⟩ : ∃ x, ps[i]? = some x := ⟨ps[i], by simp [hlt]⟩
          obtain ⟨x, y⟩ := x
          obtain ⟨b1, o1, rfl, hcx, hcy⟩ : ∃ b o, a1 = some ⟨b, o, none⟩ ∧ wr.cell? ⟨b, o + i * 2, none⟩ = some (.int .i64 x) ∧ wr.cell? ⟨b, o + i * 2 + 1, none⟩ = some (.int .i64 y) := by
            have hR := HR.out.fr0 HI.out.fr
            obtain ⟨hl2, a, c, h1, _, h | ⟨b, o, h2, h⟩⟩ := hR
            · rw [h] at hl2; simp at hl2; omega
            · simp at h1
              have hg := cells2_get hx
              exact ⟨b, o, by rw [h1.1, h2], h _ _ hg.1, by have := h _ _ hg.2; rwa [← Nat.add_assoc] at this⟩
          clear hx
          go_upto_region 13 with (fail)
          go_cut [10, 11] (fun v10 v11 wc => v10 = .int .i64 (x % 8) ∧ v11 = .int .i64 (y % 32) ∧ ∃ k, wc = wr.drewN k)
          case first =>
            have hb1 : bits .and .i64 x 7 = x % 8 := and7 x
            have hb2 : bits .and .i64 y 31 = y % 32 := and31 y
            go_quiet (fail)
            go_wp2
            go_meet
            case rel => exact ⟨rfl, rfl, _, rfl⟩
          case rest =>
            obtain ⟨rfl, rfl, kd, rfl⟩ := hcut
            go_upto_if 62 with (fail)
            go_cut [10, 11] (fun v10 v11 wc => ∃ (k t : Int), v10 = .int .i64 k ∧ v11 = .int .i64 t ∧ Fr [] wr wc)
            case first =>
              by_cases hb : (bits .and .i64 (i : Int) 15 == 15) = true
              · go_wp2_with fail
                go_quiet (fail)
                go_wp2
                go_meet
                case rel => exact ⟨x, y, rfl, rfl, ((Fr.refl _ _).drewN _).drewN _⟩
              · have hb' : (bits .and .i64 (i : Int) 15 == 15) = false := by simpa using hb
                clear hb
                go_wp2_with fail
                go_meet
                case rel => exact ⟨_, _, rfl, rfl, (Fr.refl _ _).drewN _⟩
            case rest =>
              obtain ⟨k, t, rfl, rfl, hwd⟩ := hcut
              have HId : Hid (Inv w n p q w1.heap.size ats wc) := HI.out.fr0 hwd
              clear hwd hcx hcy HI
              obtain ⟨wd, hwd⟩ : ∃ wd, wd = wc := ⟨_, rfl⟩
              rw [← hwd] at HId ⊢
              clear hwd
              have hlen' := HId.out.len
              go_upto_block 4 with (fail)
              go_cut [12] (fun v12 wc => v12 = .int .i64 (want ats k t).1 ∧ Blk wc w1.heap.size ((want ats k t).2.map (Value.int .i64)) 2 ∧ Fr [w1.heap.size] wd wc)
              case first =>
                by_cases hk0 : k < 0
                · have HW := Lib.hid (want_out (ats := ats) (k := k) (t := t) (.inl hk0))
                  have cd : decide (k < 0) = true := decide_eq_true hk0
                  go_wp2_with fail
                  go_meet
                  case rel => rw [HW.out]; exact ⟨rfl, HId.out.own, Fr.refl _ _⟩
                have cd : decide (k < 0) = false := decide_eq_false hk0
                by_cases hkn : (n : Int) ≤ k
                · have HW := Lib.hid (want_out (ats := ats) (k := k) (t := t) (.inr (by omega)))
                  have cd2 : decide ((n : Int) ≤ k) = true := decide_eq_true hkn
                  go_wp2_with fail
                  go_meet
                  case rel => rw [HW.out]; exact ⟨rfl, HId.out.own, Fr.refl _ _⟩
                obtain ⟨j, rfl⟩ := Int.eq_ofNat_of_zero_le (show 0 ≤ k by omega)
                have hjn : j < n := by omega
                obtain ⟨a, ha⟩ : ∃ a, ats[j]? = some a := ⟨ats[j]'(by omega), List.getElem?_eq_getElem _⟩
                have hcj : wd.cell? ⟨w1.heap.size, j, none⟩ = some (.int .i64 a) := HId.out.own.cell_at (by rw [List.getElem?_map, ha]; rfl)
                have hfz := HId.out.own.thawed
                have cd2 : decide ((n : Int) ≤ (j : Int)) = false := decide_eq_false (by omega)
                have HW := Lib.hid (want_in (t := t) ha)
                have HA := Lib.hid ha
                clear hk0 hkn ha
                by_cases ht : t < 0 ∨ 1099511627776 < t
                · have e1 : toMark a t = (a, 12) := by unfold toMark; rw [if_pos ht]
                  rw [e1] at HW
                  have HE : Hid (ats.set j (a, (12 : Int)).1 = ats) := set_self HA.out
                  by_cases ht0 : t < 0
                  · have ct : decide (t < 0) = true := decide_eq_true ht0
                    clear e1 ht
                    go_wp2_with fail
                    go_meet
                    case rel => rw [HW.out]; exact ⟨rfl, by rw [HE.out]; exact HId.out.own, Fr.refl _ _⟩
                  · have ct : decide (t < 0) = false := decide_eq_false ht0
                    have ct2 : decide (1099511627776 < t) = true := decide_eq_true (by omega)
                    clear e1 ht
                    go_wp2_with fail
                    go_meet
                    case rel => rw [HW.out]; exact ⟨rfl, by rw [HE.out]; exact HId.out.own, Fr.refl _ _⟩
                · have ct : decide (t < 0) = false := decide_eq_false (by omega)
                  have ct2 : decide (1099511627776 < t) = false := decide_eq_false (by omega)
                  by_cases hta : t ≤ a
                  · have e1 : toMark a t = (a, 7) := by unfold toMark; rw [if_neg ht, if_pos hta]
                    rw [e1] at HW
                    have HE : Hid (ats.set j (a, (7 : Int)).1 = ats) := set_self HA.out
                    have cta : decide (t ≤ a) = true := decide_eq_true hta
                    clear e1 ht
                    go_wp2_with fail
                    go_meet
                    case rel => rw [HW.out]; exact ⟨rfl, by rw [HE.out]; exact HId.out.own, Fr.refl _ _⟩
                  · have e1 : toMark a t = (t, 0) := by unfold toMark; rw [if_neg ht, if_neg hta]
                    rw [e1] at HW
                    have cta : decide (t ≤ a) = false := decide_eq_false hta
                    clear e1 ht
                    go_wp2_with fail
                    go_meet
                    case rel =>
                      rw [HW.out]
                      refine ⟨rfl, ?_, (Fr.refl _ _).set (by simp) _⟩
                      rw [List.map_set]; exact HId.out.own.set j _
              case rest =>
                obtain ⟨rfl, hB, hF⟩ := hcut
                have HB := Lib.hid hB
                have HF := Lib.hid hF
                have HA2 : Hid (Al wc p q ats) := HId.out.al.fr hF (by have := HId.out.ne; simp; omega) (by have := HId.out.ne; simp; omega)
                have HTO := Lib.hid (to_want p q ats k t wc HA2.out)
                have hwl := want_len ats k t
                obtain ⟨wv, ats', hwv⟩ : ∃ wv ats', want ats k t = (wv, ats') := ⟨_, _, rfl⟩
                rw [hwv] at HTO HB hwl
                rw [hwv]
                have hlen2 : ats'.length = n := by rw [← hlen']; exact hwl
                clear hB hF hwv hwl
                go_wp2_with fail
                refine HTO.out.mono ?_
                rintro e w3 ⟨rfl, hA3, hF3⟩
                have HI3 : Hid (Inv w n p q w1.heap.size ats' w3) := ⟨hA3, HB.out.fr hF3 (by have := HId.out.ne; simp; omega), hlen2, (HId.out.fr.trans HF.out (fun b hb => by have := HId.out.big; simp at hb; right; omega)).trans hF3 (fun b hb => by have := HId.out.big; simp at hb; right; omega), HId.out.big, HId.out.ne⟩
                clear hA3 hF3 HTO HB HF HA2 HId hlen'
                obtain ⟨a0, ha0⟩ : ∃ a0, ats'[0]? = some a0 := ⟨ats'[0]'(by omega), List.getElem?_eq_getElem _⟩
                have hc0 : w3.cell? ⟨w1.heap.size, 0, none⟩ = some (.int .i64 a0) := HI3.out.own.cell_at (by rw [List.getElem?_map, ha0]; rfl)
                have HE := Lib.hid (run_least ha0)
                clear ha0
                go_upto_region 27 with (fail)
                go_upto_block 5 with (fail)
                go_cut [13] (fun v13 wc => v13 = .int .i64 (earliest ats') ∧ w3 = wc)
                case first =>
                  go_wp2_with fail
                  go_loopw [13, 15] (fun v13 v15 wx => ∃ j : Nat, j ≤ n ∧ v15 = .int .i64 j ∧ v13 = .int .i64 (low a0 (ats'.take j)) ∧ w3 = wx) (fun _ v15 _ => n - (intOf v15).toNat)
                  case atStart => exact ⟨0, by omega, rfl, rfl, rfl⟩
                  case round =>
                    obtain ⟨j, hj, rfl, rfl, rfl⟩ := hrel
                    by_cases hjn : j < n
                    · obtain ⟨y, hy⟩ : ∃ y, ats'[j]? = some y := ⟨ats'[j]'(by omega), List.getElem?_eq_getElem _⟩
                      have hcj : w3.cell? ⟨w1.heap.size, j, none⟩ = some (.int .i64 y) := HI3.out.own.cell_at (by rw [List.getElem?_map, hy]; rfl)
                      have hsn : low a0 (ats'.take (j + 1)) = imin (low a0 (ats'.take j)) y := by
                        rw [List.take_add_one, hy]; simp only [Option.toList, low, List.foldl_append, List.foldl_cons, List.foldl_nil]; rw [imin_eq]
                      have HSN := Lib.hid hsn
                      clear hsn hy
                      generalize low a0 (ats'.take j) = lo at HSN
                      go_wp2_with fail
                      go_roundw
                      case rel => exact ⟨j + 1, by omega, by go_num, by rw [HSN.out], by trivial⟩
                      case measure => simp [intOf]; omega
                    · obtain rfl : j = n := by omega
                      go_wp2_with fail
                      go_meet
                      case rel => exact ⟨by rw [List.take_of_length_le (by omega), HE.out], by trivial⟩
                case rest =>
                  obtain ⟨rfl, rfl⟩ := hcut
                  clear hc0 HE
                  have HBE := Lib.hid (behind_any p q ats' w3 HI3.out.al)
                  rw [hlen2] at HBE
                  obtain ⟨m, hm'⟩ : ∃ m, earliest ats' = m := ⟨_, rfl⟩
                  obtain ⟨L, hL⟩ : ∃ L, (behind ats' m n).length = L := ⟨_, rfl⟩
                  rw [hm', hL] at HBE
                  rw [hm']
                  have HAT : Hid (∀ W, Al W p q ats' → Calls Try.prog 58 #[.pointer (some ⟨p, 0, none⟩)] W fun e w' => e = .returned (.int .i64 m) ∧ Fr [] W w') := fun W hW => by
                    rw [← hm']; exact at_all p q ats' W hW
                  have HL := Lib.hid hL
                  clear hm' hL
                  go_wp2_with fail
                  refine HBE.out.mono ?_
                  rintro e w4 ⟨ab, cb, rfl, hV, hF4⟩
                  have HI4 := Lib.hid (HI3.out.fr0 hF4)
                  have HV := Lib.hid hV
                  clear hV hF4 HI3 HBE
                  go_upto_block 7 with (fail)
                  go_cut [14] (fun v14 wc => v14 = .int .i64 L ∧ Fr [] w4 wc)
                  case first =>
                    go_wp2_with fail
                    go_loopw [14, 17] (fun v14 v17 wx => ∃ j : Nat, j ≤ n ∧ v17 = .int .i64 j ∧ v14 = .int .i64 (behind ats' m j).length ∧ Fr [] w4 wx) (fun _ v17 _ => n - (intOf v17).toNat)
                    case atStart => exact ⟨0, by omega, rfl, rfl, Fr.refl _ _⟩
                    case round =>
                      obtain ⟨j, hj, rfl, rfl, hF⟩ := hrel
                      have HI5 := Lib.hid (HI4.out.fr0 hF)
                      have HV5 := Lib.hid (HV.out.fr0 hF)
                      have HF := Lib.hid hF
                      clear hF
                      by_cases hjn : j < n
                      · obtain ⟨y, hy⟩ : ∃ y, ats'[j]? = some y := ⟨ats'[j]'(by omega), List.getElem?_eq_getElem _⟩
                        have hcj : wr.cell? ⟨w1.heap.size, j, none⟩ = some (.int .i64 y) := HI5.out.own.cell_at (by rw [List.getElem?_map, hy]; rfl)
                        have HBS := Lib.hid (behind_succ ats' m j)
                        have HY := Lib.hid hy
                        rw [hy] at HBS
                        clear hy
                        go_upto_if 131 with (fail)
                        go_cut [14] (fun v14 wc => v14 = .int .i64 (behind ats' m (j + 1)).length ∧ wr = wc)
                        case first =>
                          have hbl := behind_len ats' m j
                          by_cases hym : y = m
                          · subst hym
                            have hbg := behind_get hjn HY.out
                            have hlt2 := (List.getElem?_eq_some_iff.1 hbg).1
                            rw [HL.out] at hlt2
                            obtain ⟨b2, o2, rfl, hcb⟩ : ∃ b o, ab = some ⟨b, o, none⟩ ∧ wr.cell? ⟨b, o + (behind ats' y j).length, none⟩ = some (.int .i64 j) := by
                              obtain ⟨_, a, c, h1, _, h | ⟨b, o, h2, h⟩⟩ := HV5.out.reads
                              · rw [List.map_eq_nil_iff] at h; rw [h] at hbg; simp at hbg
                              · simp at h1
                                exact ⟨b, o, by rw [h1.1, h2], h _ _ (by rw [List.getElem?_map, hbg]; rfl)⟩
                            clear hbg
                            have HS : Hid ((behind ats' y (j + 1)).length = (behind ats' y j).length + 1) := by
                              have h := HBS.out
                              rw [if_pos rfl] at h
                              have h2 := congrArg List.length h
                              exact Lib.hid (by simpa using h2)
                            clear HBS
                            obtain ⟨B, hB⟩ : ∃ B, (behind ats' y j).length = B := ⟨_, rfl⟩
                            rw [hB] at HS hbl hlt2 hcb
                            rw [hB]
                            clear hB
                            go_wp2_with fail
                            go_meet
                            case rel => exact ⟨by rw [HS.out]; go_num, by trivial⟩
                          · have hym' : (y == m) = false := by rw [beq_eq_false_iff_ne]; exact hym
                            have HS : Hid (behind ats' m (j + 1) = behind ats' m j) := by
                              have h := HBS.out
                              rwa [if_neg (by simpa using hym)] at h
                            clear HBS
                            go_wp2_with fail
                            go_meet
                            case rel => exact ⟨by rw [HS.out], by trivial⟩
                        case rest =>
                          obtain ⟨rfl, rfl⟩ := hcut
                          have HOF : Hid (∀ W, Fr [] wr W → Calls Try.prog 57 #[.pointer (some ⟨p, 0, none⟩), .int .i64 j] W fun e w' => e = .returned (.int .i64 y) ∧ Fr [] W w') := fun W hW => of_in p q ats' j y W (HI5.out.fr0 hW).al HY.out
                          go_upto_region 39 with (fail)
                          go_region_held3 (fun W => W.cell? ⟨w1.heap.size, j, none⟩ = some (.int .i64 y) ∧ Hid (Fr [] wr W)) (first | exact ⟨hcj, Lib.hid (Fr.refl _ _).drew⟩ | assumption)
                            (first | (go_at_call 57; have hS := (‹_ ∧ Hid (Fr [] wr _)›); refine (HOF.out _ hS.2.out).mono ?_; rintro e w' ⟨rfl, hF'⟩; have hS' : w'.cell? ⟨w1.heap.size, j, none⟩ = some (.int .i64 y) ∧ Hid (Fr [] wr w') := ⟨hF'.cell hS.1 (by simp), Lib.hid (hS.2.out.trans0 hF')⟩))
                          go_wp2_with fail
                          go_roundw
                          case rel => exact ⟨j + 1, by omega, by go_num, rfl, HF.out.trans0 hS'.2.out⟩
                          case measure => simp [intOf]; omega
                      · obtain rfl : j = n := by omega
                        go_wp2_with fail
                        go_meet
                        case rel => exact ⟨by rw [HL.out], HF.out⟩
                  case rest =>
                    obtain ⟨rfl, hF⟩ := hcut
                    have HI5 := Lib.hid (HI4.out.fr0 hF)
                    clear hF
                    go_wp2_with fail
                    refine (HAT.out _ HI5.out.al).mono ?_
                    rintro e w6 ⟨rfl, hF6⟩
                    have HI6 := Lib.hid (HI5.out.fr0 hF6)
                    clear hF6
                    go_wp2_with fail
                    go_roundw
                    case rel => exact ⟨i + 1, ats', by omega, by omega, by go_num, HI6.out⟩
                    case measure => simp [intOf]; omega
        · have HI1 := Lib.hid (HI.out)
          have HENDS : Hid (∀ W, Fr [] wr W → (∀ k : Int, k < 0 ∨ (n : Int) ≤ k → Calls Try.prog 57 #[.pointer (some ⟨p, 0, none⟩), .int .i64 k] W fun e w' => e = .returned (.int .i64 (-1)) ∧ W = w')) :=
            fun W hW k hk => of_out p q ats k W (HI1.out.fr0 hW).al (by rw [HI1.out.len]; exact hk)
          have HL : Hid (i < ps.length → decide ((i : Int) < 60) = false) := fun h => decide_eq_false (by omega)
          clear hlt
          by_cases hi2 : i < ps.length
          · have hc8 := HL.out hi2
            go_wp2_with fail
            refine (awake_any _).mono ?_
            rintro e w2 ⟨rfl, hF2⟩
            have HF2 := Lib.hid hF2
            clear hF2
            go_wp2_with fail
            refine (HENDS.out _ HF2.out (-1) (by omega)).mono ?_
            rintro e wx ⟨rfl, rfl⟩
            go_wp2_with fail
            refine (HENDS.out _ HF2.out n (by omega)).mono ?_
            rintro e wx ⟨rfl, rfl⟩
            go_wp2_with (first | (go_at_call 55; refine (to_nil _ _ _).mono ?_; rintro e wx ⟨rfl, rfl⟩) | (go_at_call 58; refine (at_nil _).mono ?_; rintro e wx ⟨rfl, rfl⟩) | (go_at_call 54; refine (parts_nil _).mono ?_; rintro e wx ⟨rfl, rfl⟩) | (go_at_call 56; refine (behind_nil _).mono ?_; rintro e wx ⟨rfl, rfl⟩))
            go_ret
            exact ⟨rfl, HI1.out.fr.trans0 HF2.out⟩
          · obtain rfl : i = ps.length := by omega
            go_wp2_with fail
            refine (awake_any _).mono ?_
            rintro e w2 ⟨rfl, hF2⟩
            have HF2 := Lib.hid hF2
            clear hF2
            go_wp2_with fail
            refine (HENDS.out _ HF2.out (-1) (by omega)).mono ?_
            rintro e wx ⟨rfl, rfl⟩
            go_wp2_with fail
            refine (HENDS.out _ HF2.out n (by omega)).mono ?_
            rintro e wx ⟨rfl, rfl⟩
            go_wp2_with (first | (go_at_call 55; refine (to_nil _ _ _).mono ?_; rintro e wx ⟨rfl, rfl⟩) | (go_at_call 58; refine (at_nil _).mono ?_; rintro e wx ⟨rfl, rfl⟩) | (go_at_call 54; refine (parts_nil _).mono ?_; rintro e wx ⟨rfl, rfl⟩) | (go_at_call 56; refine (behind_nil _).mono ?_; rintro e wx ⟨rfl, rfl⟩))
            go_ret
            exact ⟨rfl, HI1.out.fr.trans0 HF2.out⟩
end Go.Proofs.Ytcnoaflojojfkaa.AlignPlays
