/- NumTimes: which numbers are times, and which times are so near: the walk of the law. No condition. (The printed texts of num.Parse, num.Digits and the law's awake are used.) -/
import Derived.Test.YtcnoaflojojfkabBase
import Derived.Test.YtcnoaflojojfkabPNumTimesx2
namespace Go.Proofs.Ytcnoaflojojfkab.NumTimes
open Go.RowKit
set_option linter.unusedVariables false
set_option linter.unusedSimpArgs false
set_option maxRecDepth 100000

theorem time_any (t : Int) (w : World) : Calls Try.prog 21 #[.int .i64 t] w fun e w' => e = .returned (.bool (decide (0 ≤ t ∧ t ≤ 1099511627776))) ∧ w = w' := by
  by_cases h0 : 0 ≤ t
  · go_enter Try.func21, Try.ntmps21
    go_wp2
    go_ret
    exact ⟨ret_bool (by simp [h0]), rfl⟩
  · have h1 : decide (0 ≤ t) = false := decide_eq_false h0
    go_enter Try.func21, Try.ntmps21
    go_wp2
    go_ret
    exact ⟨ret_bool (by first | (simp; done) | (simp; omega) | (rw [Bool.eq_iff_iff]; simp; omega)), rfl⟩

theorem within_any (a b m : Int) (w : World) : Calls Try.prog 22 #[.int .i64 a, .int .i64 b, .int .i64 m] w fun e w' => e = .returned (.bool (decide ((0 ≤ a ∧ a ≤ 1099511627776) ∧ (0 ≤ b ∧ b ≤ 1099511627776) ∧ a ≤ b ∧ b - a ≤ m))) ∧ w = w' := by
  by_cases ha : 0 ≤ a ∧ a ≤ 1099511627776
  · have ca : decide (0 ≤ a ∧ a ≤ 1099511627776) = true := decide_eq_true ha
    by_cases hb : 0 ≤ b ∧ b ≤ 1099511627776
    · have cb : decide (0 ≤ b ∧ b ≤ 1099511627776) = true := decide_eq_true hb
      by_cases hab : a ≤ b
      · have cab : decide (a ≤ b) = true := decide_eq_true hab
        have hw : IntKind.i64.wrap (b - a) = b - a := IntWalk.i64_in _ (by omega)
        have Ha := Lib.hid ha
        have Hb := Lib.hid hb
        have Ca := Lib.hid ca
        have Cb := Lib.hid cb
        clear ha hb ca cb
        go_enter Try.func22, Try.ntmps22
        go_wp2_with fail
        refine (time_any a _).mono ?_
        rintro e w' ⟨rfl, rfl⟩
        rw [Ca.out]
        go_wp2_with fail
        refine (time_any b _).mono ?_
        rintro e w' ⟨rfl, rfl⟩
        rw [Cb.out]
        go_wp2
        go_ret
        exact ⟨ret_bool (by have := Ha.out; have := Hb.out; rw [Bool.eq_iff_iff]; simp; omega), rfl⟩
      · have cab : decide (a ≤ b) = false := decide_eq_false hab
        have Ca := Lib.hid ca
        have Cb := Lib.hid cb
        clear ha hb ca cb
        go_enter Try.func22, Try.ntmps22
        go_wp2_with fail
        refine (time_any a _).mono ?_
        rintro e w' ⟨rfl, rfl⟩
        rw [Ca.out]
        go_wp2_with fail
        refine (time_any b _).mono ?_
        rintro e w' ⟨rfl, rfl⟩
        rw [Cb.out]
        go_wp2
        go_ret
        exact ⟨ret_bool (by rw [Bool.eq_iff_iff]; simp; omega), rfl⟩
    · have cb : decide (0 ≤ b ∧ b ≤ 1099511627776) = false := decide_eq_false hb
      have Ca := Lib.hid ca
      have Cb := Lib.hid cb
      have Hb := Lib.hid hb
      clear ha hb ca cb
      go_enter Try.func22, Try.ntmps22
      go_wp2_with fail
      refine (time_any a _).mono ?_
      rintro e w' ⟨rfl, rfl⟩
      rw [Ca.out]
      go_wp2_with fail
      refine (time_any b _).mono ?_
      rintro e w' ⟨rfl, rfl⟩
      rw [Cb.out]
      go_wp2
      go_ret
      exact ⟨ret_bool (by have := Hb.out; rw [Bool.eq_iff_iff]; simp; omega), rfl⟩
  · have ca : decide (0 ≤ a ∧ a ≤ 1099511627776) = false := decide_eq_false ha
    have Ca := Lib.hid ca
    have Ha := Lib.hid ha
    clear ha ca
    go_enter Try.func22, Try.ntmps22
    go_wp2_with fail
    refine (time_any a _).mono ?_
    rintro e w' ⟨rfl, rfl⟩
    rw [Ca.out]
    go_wp2
    go_ret
    exact ⟨ret_bool (by have := Ha.out; rw [Bool.eq_iff_iff]; simp; omega), rfl⟩

theorem awake_true : PNumTimes.lamplighterlaw01_awake.f 400 = some true := by decide +kernel
theorem awake_any (w : World) : Calls Try.prog 17 #[] w fun e w' => e = .returned (.bool true) ∧ Fr [] w w' :=
  (PNumTimes.lamplighterlaw01_awake.calls 400 true w awake_true).mono fun e w' ⟨he, hb⟩ => ⟨he, Fr.of_below hb⟩

set_option maxHeartbeats 4000000 in
theorem walk (a : Int) (wa : (Lit.int .i64 a).wf = true) (b : Int) (wb : (Lit.int .i64 b).wf = true) (m : Int) (wm : (Lit.int .i64 m).wf = true) {w : World} :
    Calls Try.prog 5 #[.int .i64 a, .int .i64 b, .int .i64 m] w fun e w' => e = .returned (.bool true) ∧ Fr [] w w' := by
  clear wa wb wm
  go_enter Try.func5, Try.ntmps5
  go_upto_region 1 with (fail)
  go_cut [7, 8] (fun v7 v8 wc => v7 = .bool (decide (0 ≤ a ∧ a ≤ 1099511627776)) ∧ v8 = .bool (decide (0 ≤ b ∧ b ≤ 1099511627776)) ∧ wc = w)
  case first =>
    rcases Classical.em (0 ≤ a) with ha0 | ha0
    all_goals rcases Classical.em (0 ≤ b) with hb0 | hb0
    · go_wp2_with fail
      go_meet
      case rel => exact ⟨congrArg Value.bool (by simp [ha0]), congrArg Value.bool (by simp [hb0]), rfl⟩
    · have cb : decide (0 ≤ b) = false := decide_eq_false hb0
      go_wp2_with fail
      go_meet
      case rel => exact ⟨congrArg Value.bool (by simp [ha0]), congrArg Value.bool (by rw [eq_comm, decide_eq_false_iff_not]; omega), rfl⟩
    · have ca : decide (0 ≤ a) = false := decide_eq_false ha0
      go_wp2_with fail
      go_meet
      case rel => exact ⟨congrArg Value.bool (by rw [eq_comm, decide_eq_false_iff_not]; omega), congrArg Value.bool (by simp [hb0]), rfl⟩
    · have ca : decide (0 ≤ a) = false := decide_eq_false ha0
      have cb : decide (0 ≤ b) = false := decide_eq_false hb0
      go_wp2_with fail
      go_meet
      case rel => exact ⟨congrArg Value.bool (by rw [eq_comm, decide_eq_false_iff_not]; omega), congrArg Value.bool (by rw [eq_comm, decide_eq_false_iff_not]; omega), rfl⟩
  case rest =>
    obtain ⟨rfl, rfl, rfl⟩ := hcut
    have HT : Hid (∀ W, Calls Try.prog 21 #[.int .i64 a] W fun e w' => e = .returned (.bool (decide (0 ≤ a ∧ a ≤ 1099511627776))) ∧ W = w') := fun W => time_any a W
    by_cases ha : 0 ≤ a ∧ a ≤ 1099511627776
    · have ea : decide (0 ≤ a ∧ a ≤ 1099511627776) = true := decide_eq_true ha
      by_cases hb : 0 ≤ b ∧ b ≤ 1099511627776
      · have eb : decide (0 ≤ b ∧ b ≤ 1099511627776) = true := decide_eq_true hb
        have hw : IntKind.i64.wrap (b - a) = b - a := IntWalk.i64_in _ (by omega)
        have HWI : Hid (∀ W, Calls Try.prog 22 #[.int .i64 a, .int .i64 b, .int .i64 m] W fun e w' => e = .returned (.bool (decide (a ≤ b ∧ b - a ≤ m))) ∧ W = w') := by
          intro W
          have h := within_any a b m W
          have e : decide ((0 ≤ a ∧ a ≤ 1099511627776) ∧ (0 ≤ b ∧ b ≤ 1099511627776) ∧ a ≤ b ∧ b - a ≤ m) = decide (a ≤ b ∧ b - a ≤ m) := by apply decide_eq_decide.2; omega
          rw [e] at h; exact h
        rw [ea] at HT
        rw [ea, eb]
        clear ha hb ea eb
        rcases Classical.em (a ≤ b) with hab | hab
        · go_wp2_with fail
          refine (awake_any _).mono ?_
          rintro e w1 ⟨rfl, hF⟩
          have HF := Lib.hid hF
          clear hF
          go_wp2_with fail
          refine (HT.out _).mono ?_
          rintro e w' ⟨rfl, rfl⟩
          go_wp2_with fail
          refine (HWI.out _).mono ?_
          rintro e w' ⟨rfl, rfl⟩
          go_wp2
          go_ret
          exact ⟨rfl, HF.out⟩
        · have cab : decide (a ≤ b) = false := decide_eq_false hab
          have eab : decide (a ≤ b ∧ b - a ≤ m) = false := decide_eq_false (fun h => hab h.1)
          rw [eab] at HWI
          clear hab eab
          go_wp2_with fail
          refine (awake_any _).mono ?_
          rintro e w1 ⟨rfl, hF⟩
          have HF := Lib.hid hF
          clear hF
          go_wp2_with fail
          refine (HT.out _).mono ?_
          rintro e w' ⟨rfl, rfl⟩
          go_wp2_with fail
          refine (HWI.out _).mono ?_
          rintro e w' ⟨rfl, rfl⟩
          go_wp2
          go_ret
          exact ⟨rfl, HF.out⟩
      · have eb : decide (0 ≤ b ∧ b ≤ 1099511627776) = false := decide_eq_false hb
        have HWI : Hid (∀ W, Calls Try.prog 22 #[.int .i64 a, .int .i64 b, .int .i64 m] W fun e w' => e = .returned (.bool false) ∧ W = w') := by
          intro W
          have h := within_any a b m W
          have e : decide ((0 ≤ a ∧ a ≤ 1099511627776) ∧ (0 ≤ b ∧ b ≤ 1099511627776) ∧ a ≤ b ∧ b - a ≤ m) = false := decide_eq_false (fun h => hb h.2.1)
          rw [e] at h; exact h
        rw [ea] at HT
        rw [ea, eb]
        clear ha hb ea eb
        go_wp2_with fail
        refine (awake_any _).mono ?_
        rintro e w1 ⟨rfl, hF⟩
        have HF := Lib.hid hF
        clear hF
        go_wp2_with fail
        refine (HT.out _).mono ?_
        rintro e w' ⟨rfl, rfl⟩
        go_wp2_with fail
        refine (HWI.out _).mono ?_
        rintro e w' ⟨rfl, rfl⟩
        go_wp2
        go_ret
        exact ⟨rfl, HF.out⟩
    · have ea : decide (0 ≤ a ∧ a ≤ 1099511627776) = false := decide_eq_false ha
      have HWI : Hid (∀ W, Calls Try.prog 22 #[.int .i64 a, .int .i64 b, .int .i64 m] W fun e w' => e = .returned (.bool false) ∧ W = w') := by
        intro W
        have h := within_any a b m W
        have e : decide ((0 ≤ a ∧ a ≤ 1099511627776) ∧ (0 ≤ b ∧ b ≤ 1099511627776) ∧ a ≤ b ∧ b - a ≤ m) = false := decide_eq_false (fun h => ha h.1)
        rw [e] at h; exact h
      rw [ea] at HT
      rw [ea]
      clear ha ea
      generalize decide (0 ≤ b ∧ b ≤ 1099511627776) = y
      go_wp2_with fail
      refine (awake_any _).mono ?_
      rintro e w1 ⟨rfl, hF⟩
      have HF := Lib.hid hF
      clear hF
      go_wp2_with fail
      refine (HT.out _).mono ?_
      rintro e w' ⟨rfl, rfl⟩
      go_wp2_with fail
      refine (HWI.out _).mono ?_
      rintro e w' ⟨rfl, rfl⟩
      go_wp2
      go_ret
      exact ⟨rfl, HF.out⟩
end Go.Proofs.Ytcnoaflojojfkab.NumTimes
