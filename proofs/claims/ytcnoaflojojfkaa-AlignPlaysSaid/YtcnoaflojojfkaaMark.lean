/- A mark: what each method of mark.Mark, and mark.Least, tells. No condition. -/
import Derived.Test.YtcnoaflojojfkaaView
namespace Go.Proofs.Ytcnoaflojojfkaa.Mark
open Go.RowKit
set_option linter.unusedVariables false
set_option linter.unusedSimpArgs false
set_option maxRecDepth 100000

theorem time_any (t : Int) (w : World) : Calls Try.prog 67 #[.int .i64 t] w fun e w' => e = .returned (.bool (decide (0 ≤ t ∧ t ≤ 1099511627776))) ∧ w = w' := by
  by_cases h0 : 0 ≤ t
  · go_enter Try.func67, Try.ntmps67
    go_wp2
    go_ret
    exact ⟨ret_bool (by simp [h0]), rfl⟩
  · have h1 : decide (0 ≤ t) = false := decide_eq_false h0
    go_enter Try.func67, Try.ntmps67
    go_wp2
    go_ret
    exact ⟨ret_bool (by first | (simp; done) | (simp; omega) | (rw [Bool.eq_iff_iff]; simp; omega)), rfl⟩

/-- a mark at a: a + 1 is kept -/
theorem at_any (a : Int) (h0 : -1 ≤ a) (h1 : a ≤ 1099511627776) (w : World) : Calls Try.prog 16 #[.agg #[.int .i64 (a + 1)]] w fun e w' => e = .returned (.int .i64 a) ∧ Fr [] w w' := by
  go_enter Try.func16, Try.ntmps16
  go_wp2
  go_ret
  refine ⟨ret_int (by omega), ?_⟩
  exact (Fr.refl _ _).alloc _
theorem late_any (a t : Int) (h0 : -1 ≤ a) (h1 : a ≤ 1099511627776) (w : World) : Calls Try.prog 17 #[.agg #[.int .i64 (a + 1)], .int .i64 t] w fun e w' => e = .returned (.bool (decide (t ≤ a))) ∧ Fr [] w w' := by
  go_enter Try.func17, Try.ntmps17
  go_wp2_with (first | (go_at_call 16; refine (at_any a h0 h1 _).mono ?_; rintro e w1 ⟨rfl, hF⟩))
  go_ret
  exact ⟨rfl, ((Fr.refl _ _).alloc _).trans0 hF⟩

/-- what To tells: the mark, and an error -/
def toMark (a t : Int) : Int × Int := if t < 0 ∨ 1099511627776 < t then (a, 12) else if t ≤ a then (a, 7) else (t, 0)
theorem to_any (a t : Int) (h0 : -1 ≤ a) (h1 : a ≤ 1099511627776) (w : World) : Calls Try.prog 15 #[.agg #[.int .i64 (a + 1)], .int .i64 t] w fun e w' =>
    e = .returned (.tuple #[.agg #[.int .i64 ((toMark a t).1 + 1)], .int .i64 (toMark a t).2]) ∧ Fr [] w w' := by
  by_cases ht : 0 ≤ t ∧ t ≤ 1099511627776
  · have eT : decide (0 ≤ t ∧ t ≤ 1099511627776) = true := decide_eq_true ht
    have HT : Hid (∀ W, Calls Try.prog 67 #[.int .i64 t] W fun e w' => e = .returned (.bool true) ∧ W = w') := fun W => by rw [← eT]; exact time_any t W
    clear eT
    by_cases c : t ≤ a
    · have e1 : toMark a t = (a, 7) := by unfold toMark; rw [if_neg (by omega), if_pos c]
      rw [e1]
      clear e1 ht
      go_enter Try.func15, Try.ntmps15
      go_wp2_with (first | (go_at_call 67; refine (HT.out _).mono ?_; rintro e w' ⟨rfl, rfl⟩) | (go_at_call 16; refine (at_any a h0 h1 _).mono ?_; rintro e w1 ⟨rfl, hF⟩; obtain ⟨B1, B2, F0⟩ := new2 w [.int .i64 (a + 1)] 24 [.int .i64 0] 24; have B1' := B1.fr hF (by simp); have B2' := B2.fr hF (by simp); have F1 := F0.trans0 hF; have hc1 := B1'.cell_at (o := 0) rfl; have hc2 := B2'.cell_at (o := 0) rfl; have hf2 := B2'.thawed; have HB := Lib.hid B2'; have HF := Lib.hid F1; clear B1 B2 F0 B1' B2' F1 hF))
      refine bodyPost_ret (v := .tuple #[.agg #[.int .i64 (a + 1)], .int .i64 7]) ?_ rfl ⟨rfl, (HF.out).set (by simp) _⟩
      have q0 := ((HB.out).set 0 (.int .i64 (a + 1))).cell_at (o := 0) rfl
      simp [results, Try.results15, go_sem, q0]
    · have e1 : toMark a t = (t, 0) := by unfold toMark; rw [if_neg (by omega), if_neg c]
      rw [e1]
      clear e1
      go_enter Try.func15, Try.ntmps15
      go_wp2_with (first | (go_at_call 67; refine (HT.out _).mono ?_; rintro e w' ⟨rfl, rfl⟩) | (go_at_call 16; refine (at_any a h0 h1 _).mono ?_; rintro e w1 ⟨rfl, hF⟩; obtain ⟨B1, B2, F0⟩ := new2 w [.int .i64 (a + 1)] 24 [.int .i64 0] 24; have B1' := B1.fr hF (by simp); have B2' := B2.fr hF (by simp); have F1 := F0.trans0 hF; have hc1 := B1'.cell_at (o := 0) rfl; have hc2 := B2'.cell_at (o := 0) rfl; have hf2 := B2'.thawed; have HB := Lib.hid B2'; have HF := Lib.hid F1; clear B1 B2 F0 B1' B2' F1 hF))
      refine bodyPost_ret (v := .tuple #[.agg #[.int .i64 (t + 1)], .int .i64 0]) ?_ rfl ⟨rfl, (HF.out).set (by simp) _⟩
      have q0 := ((HB.out).set 0 (.int .i64 (t + 1))).cell_at (o := 0) rfl
      simp [results, Try.results15, go_sem, q0]
  · have eT : decide (0 ≤ t ∧ t ≤ 1099511627776) = false := decide_eq_false ht
    have HT : Hid (∀ W, Calls Try.prog 67 #[.int .i64 t] W fun e w' => e = .returned (.bool false) ∧ W = w') := fun W => by rw [← eT]; exact time_any t W
    have e1 : toMark a t = (a, 12) := by unfold toMark; rw [if_pos (by omega)]
    rw [e1]
    clear eT e1 ht
    go_enter Try.func15, Try.ntmps15
    go_wp2_with (first | (go_at_call 67; refine (HT.out _).mono ?_; rintro e w' ⟨rfl, rfl⟩))
    refine bodyPost_ret (v := .tuple #[.agg #[.int .i64 (a + 1)], .int .i64 12]) ?_ rfl ⟨rfl, ((Fr.refl _ _).alloc _).alloc _⟩
    simp [results, Try.results15, go_sem]

/-- the least of the kept numbers, 0 of none -/
def low (a : Int) (l : List Int) : Int := l.foldl (fun x y => min x y) a
def least : List Int → Int
  | [] => 0
  | s :: l => low s (s :: l)
set_option maxHeartbeats 1000000 in
theorem least_any (ms : List Int) (a : Option Addr) (c : Nat) (w : World) (h : Reads w 1 (.slice a ms.length c) ms.length (ms.map (Value.int .i64))) (hl : ms.length ≤ 1000000) :
    Calls Try.prog 19 #[.slice a ms.length c] w fun e w' => e = .returned (.agg #[.int .i64 (least ms)]) ∧ Fr [] w w' := by
  cases ms with
  | nil =>
    go_enter Try.func19, Try.ntmps19
    go_wp2
    refine bodyPost_ret (v := .agg #[.int .i64 0]) ?_ rfl ⟨rfl, (Fr.refl _ _).alloc _⟩
    simp [results, Try.results19, go_sem]
  | cons m0 rest =>
    obtain ⟨_, a', c', h1, hc, h' | ⟨b, o, h2, hcell⟩⟩ := id h
    · simp at h'
    simp only [Value.slice.injEq, true_and] at h1
    obtain ⟨rfl, rfl⟩ := h1
    subst h2
    have hb : b < w.heap.size := World.block_lt_of_cell? w _ (hcell 0 _ rfl)
    have hc0 : w.cell? ⟨b, o, none⟩ = some (.int .i64 m0) := hcell 0 _ rfl
    have HC := Lib.hid hcell
    have hl' : rest.length + 1 ≤ 1000000 := hl
    clear hcell h hl
    go_enter Try.func19, Try.ntmps19
    go_wp2
    go_loopw [15] (fun v wr => ∃ k : Nat, k ≤ rest.length + 1 ∧ v = .int .i64 k ∧ Blk wr w.heap.size [.int .i64 0] 24 ∧ Blk wr (w.heap.size + 1) [.int .i64 (low m0 ((m0 :: rest).take k))] 24 ∧ Fr [] w wr) (fun v _ => rest.length + 1 - (intOf v).toNat)
    case atStart =>
      obtain ⟨B1, B2, F0⟩ := new2 w [.int .i64 0] 24 [.int .i64 m0] 24
      exact ⟨0, by omega, rfl, B1, B2, F0⟩
    case round =>
      obtain ⟨k, hk, rfl, hB1, hB2, hF⟩ := hrel
      by_cases hkl : k < rest.length + 1
      · obtain ⟨y, hy⟩ : ∃ y, (m0 :: rest)[k]? = some y := ⟨(m0 :: rest)[k]'hkl, by rw [List.getElem?_eq_getElem]⟩
        have hck : wr.cell? ⟨b, o + k, none⟩ = some (.int .i64 y) := hF.cell (HC.out k _ (by rw [List.getElem?_map, hy]; rfl)) (by simp)
        have hsn : low m0 ((m0 :: rest).take (k + 1)) = imin (low m0 ((m0 :: rest).take k)) y := by
          rw [List.take_add_one, hy]; simp only [Option.toList, low, List.foldl_append, List.foldl_cons, List.foldl_nil]; rw [imin_eq]
        have HSN := Lib.hid hsn
        clear hsn hy
        generalize low m0 ((m0 :: rest).take k) = lo at hB2 HSN
        have hc3 := hB2.cell_at (o := 0) rfl
        have hf3 := hB2.thawed
        have hlt3 := hB2.lt
        have hlt2 := hB1.lt
        have HB1 := Lib.hid hB1
        have HB2 := Lib.hid hB2
        have HF := Lib.hid hF
        clear hB1 hB2 hF
        go_wp2
        go_roundw
        case rel =>
          refine ⟨k + 1, by omega, by go_num, ?_, ?_, ?_⟩
          · exact (HB1.out.set_ne (a := ⟨w.heap.size + 1, 0, none⟩) (by simp) _).alloc _
          · rw [HSN.out]; exact (HB2.out.set 0 _).alloc _
          · exact (HF.out.set (by simp) _).alloc _
        case measure => simp [intOf]; omega
      · obtain rfl : k = rest.length + 1 := by omega
        have hc2 := hB1.cell_at (o := 0) rfl
        have hf2 := hB1.thawed
        have hc3 := hB2.cell_at (o := 0) rfl
        have HB1 := Lib.hid hB1
        have HB2 := Lib.hid hB2
        have HF := Lib.hid hF
        have hfin : low m0 ((m0 :: rest).take (rest.length + 1)) = least (m0 :: rest) := by rw [List.take_of_length_le (by simp)]; rfl
        rw [hfin] at hc3
        clear hB1 hB2 hF hkl hk hfin
        obtain ⟨y, hy⟩ : ∃ y, least (m0 :: rest) = y := ⟨_, rfl⟩
        rw [hy] at hc3
        have HY := Lib.hid hy
        clear hy
        go_wp2
        refine bodyPost_ret (v := .agg #[.int .i64 y]) ?_ rfl ⟨by rw [HY.out], HF.out.set (by simp) _⟩
        have q0 := (HB1.out.set 0 (.int .i64 y)).cell_at (o := 0) rfl
        simp [results, Try.results19, go_sem, q0]
end Go.Proofs.Ytcnoaflojojfkaa.Mark
