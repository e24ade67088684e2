/- NumProducts: products are told where they are of 64 bits, and nowhere else: the walk of the law. No condition. (The printed texts of num.Mul, num.Parse, num.Digits and the law's awake are used.) -/
import Derived.Test.YtcnoaflojojfkabBase
import Derived.Test.YtcnoaflojojfkabPNumTimesx2
namespace Go.Proofs.Ytcnoaflojojfkab.NumProducts
open Go.RowKit
set_option linter.unusedVariables false
set_option linter.unusedSimpArgs false
set_option maxRecDepth 100000

/-- of 64 bits -/
abbrev Is64 (x : Int) : Prop := -9223372036854775808 ≤ x ∧ x ≤ 9223372036854775807

theorem mul_pos_iff (a b : Int) (ha : 0 < a) (hb : 0 < b) : a ≤ 9223372036854775807 / b ↔ Is64 (a * b) := by
  have h0 : 0 < a * b := Int.mul_pos ha hb
  rw [Int.le_ediv_iff_mul_le hb]
  unfold Is64; omega
theorem mul_neg_iff (a b : Int) (ha : a < 0) (hb : 0 < b) (hmin : -9223372036854775808 ≤ a) : (-9223372036854775808 : Int).tdiv b ≤ a ↔ Is64 (a * b) := by
  have e : (-9223372036854775808 : Int).tdiv b = -(9223372036854775808 / b) := by
    rw [show (-9223372036854775808 : Int) = -9223372036854775808 from rfl, Int.neg_tdiv, Int.tdiv_eq_ediv_of_nonneg (by omega)]
  have h0 : 0 < (-a) * b := Int.mul_pos (by omega) hb
  have h1 : -a ≤ 9223372036854775808 / b ↔ (-a) * b ≤ 9223372036854775808 := Int.le_ediv_iff_mul_le hb
  rw [Int.neg_mul] at h0 h1
  rw [e]; unfold Is64; omega

theorem quo_min (b : Int) (hb : 0 < b) : wrap64 (-(9223372036854775808 : Int).tdiv b) = (-9223372036854775808 : Int).tdiv b := by
  rw [show (-9223372036854775808 : Int).tdiv b = -(9223372036854775808 : Int).tdiv b from Int.neg_tdiv 9223372036854775808 b, Int.tdiv_eq_ediv_of_nonneg (by omega)]
  have h1 : 0 ≤ (9223372036854775808 : Int) / b := Int.ediv_nonneg (by omega) (by omega)
  have h2 : (9223372036854775808 : Int) / b ≤ 9223372036854775808 := Int.ediv_le_self _ (by omega)
  exact wrap64_small (by omega) (by omega)

theorem quo_max (b : Int) (hb : b < 0) : wrap64 (-(9223372036854775807 : Int).tdiv b) = 9223372036854775807 / (-b) := by
  rw [← Int.tdiv_neg, Int.tdiv_eq_ediv_of_nonneg (by omega)]
  have h1 : 0 ≤ (9223372036854775807 : Int) / (-b) := Int.ediv_nonneg (by omega) (by omega)
  have h2 : (9223372036854775807 : Int) / (-b) ≤ 9223372036854775807 := Int.ediv_le_self _ (by omega)
  exact wrap64_small (by omega) (by omega)

/-- the product, or 0 where it isn't of 64 bits -/
theorem mul_f (a b : Int) (ha : Is64 a) (hb : Is64 b) : ∃ p, PNumTimes.num_Mul.f 10 a b = some (p, decide (Is64 (a * b))) ∧ p = if Is64 (a * b) then a * b else 0 := by
  unfold PNumTimes.num_Mul.f
  by_cases za : a = 0
  · subst za
    rw [if_pos rfl]
    simp only [PNumTimes.num_Mul.j0, if_true, Int.zero_mul]
    exact ⟨_, rfl, rfl⟩
  rw [if_neg za]
  by_cases zb : b = 0
  · subst zb
    simp only [PNumTimes.num_Mul.j0, if_true, Int.mul_zero, beq_self_eq_true]
    exact ⟨_, rfl, rfl⟩
  have e0 : (b == 0) = false := by simp [zb]
  rw [e0]
  have hbig : ∀ {c : Int}, c = -1 → (-9223372036854775808) * c = 9223372036854775808 := fun h => by rw [h]; rfl
  have j1t : PNumTimes.num_Mul.j1 9 a b true = some (0, false) := by simp only [PNumTimes.num_Mul.j1, if_true]
  by_cases s1 : a = -1 ∧ b = -9223372036854775808
  · obtain ⟨rfl, rfl⟩ := s1
    refine ⟨0, ?_, ?_⟩
    · simp only [PNumTimes.num_Mul.j0, PNumTimes.num_Mul.j1]; rfl
    · rw [if_neg (by decide)]
  by_cases s2 : b = -1 ∧ a = -9223372036854775808
  · obtain ⟨rfl, rfl⟩ := s2
    refine ⟨0, ?_, ?_⟩
    · simp only [PNumTimes.num_Mul.j0, PNumTimes.num_Mul.j1]; rfl
    · rw [if_neg (by decide)]
  have ej : PNumTimes.num_Mul.j0 10 a b false = PNumTimes.num_Mul.j1 9 a b false := by
    simp only [PNumTimes.num_Mul.j0, Bool.false_eq_true, if_false]
    by_cases c1 : a = -1
    · have c2 : ¬ b = -9223372036854775808 := fun h => s1 ⟨c1, h⟩
      rw [if_pos c1, if_neg c2]
      by_cases c3 : b = -1
      · have c4 : (a == -9223372036854775808) = false := by rw [beq_eq_false_iff_ne]; omega
        rw [if_pos c3, c4]
      · rw [if_neg c3]
    · rw [if_neg c1]
      by_cases c3 : b = -1
      · have c4 : (a == -9223372036854775808) = false := by rw [beq_eq_false_iff_ne]; exact fun h => s2 ⟨c3, h⟩
        rw [if_pos c3, c4]
      · rw [if_neg c3]
  rw [ej]
  simp only [PNumTimes.num_Mul.j1, Bool.false_eq_true, if_false]
  rw [if_neg zb]
  by_cases hI : Is64 (a * b)
  · rw [wrap64_small hI.1 hI.2, Int.mul_tdiv_cancel a zb, wrap64_small ha.1 ha.2, if_pos rfl, decide_eq_true hI]
    exact ⟨_, rfl, by rw [if_pos hI]⟩
  · rw [decide_eq_false hI]
    refine ⟨0, ?_, by rw [if_neg hI]⟩
    rw [if_neg]
    -- what is left of the product is no product
    intro hq
    have hw : Is64 (wrap64 (a * b)) := by unfold Is64 wrap64; omega
    generalize hp : wrap64 (a * b) = p at hq hw
    -- b divides p: p = a' * b + r
    have hmod : ∃ k : Int, a * b = p + k * 18446744073709551616 := by
      refine ⟨(a * b - p) / 18446744073709551616, ?_⟩
      have : (a * b - p) % 18446744073709551616 = 0 := by rw [← hp]; unfold wrap64; omega
      omega
    obtain ⟨k, hk⟩ := hmod
    have hk0 : k ≠ 0 := by intro h; subst h; apply hI; rw [hk]; unfold Is64 at *; omega
    have hdm : b * p.tdiv b + p.tmod b = p := Int.mul_tdiv_add_tmod p b
    have hma : (p.tmod b).natAbs < b.natAbs := by rw [Int.natAbs_tmod]; exact Nat.mod_lt _ (by omega)
    have hqa : (p.tdiv b).natAbs = p.natAbs / b.natAbs := Int.natAbs_tdiv p b
    have hqe : p.tdiv b = a := by
      have hpn : p.natAbs ≤ 9223372036854775808 := by unfold Is64 at hw; omega
      by_cases b1 : b = 1
      · subst b1; rw [Int.tdiv_one] at hq ⊢; rw [wrap64_small hw.1 hw.2] at hq; exact hq
      by_cases b2 : b = -1
      · subst b2
        rw [Int.tdiv_neg, Int.tdiv_one] at hq ⊢
        by_cases pm : p = -9223372036854775808
        · subst pm
          exfalso; apply s2; refine ⟨rfl, ?_⟩
          rw [← hq]; unfold wrap64; omega
        · rw [wrap64_small (by unfold Is64 at hw; omega) (by unfold Is64 at hw; omega)] at hq; exact hq
      have hb2 : 2 ≤ b.natAbs := by omega
      have hle : (p.tdiv b).natAbs ≤ 4611686018427387904 := by
        rw [hqa]
        exact Nat.le_trans (Nat.div_le_div_left hb2 (by omega)) (by omega)
      rw [wrap64_small (by omega) (by omega)] at hq; exact hq
    rw [hqe, Int.mul_comm, hk] at hdm
    unfold Is64 at hb
    omega

theorem mul_any (a b : Int) (ha : Is64 a) (hb : Is64 b) (w : World) : Calls Try.prog 15 #[.int .i64 a, .int .i64 b] w fun e w' => e = .returned (.tuple #[.int .i64 (if Is64 (a * b) then a * b else 0), .bool (decide (Is64 (a * b)))]) ∧ Fr [] w w' := by
  obtain ⟨p, hp, rfl⟩ := mul_f a b ha hb
  refine (PNumTimes.num_Mul.calls 10 a b _ _ w hp).mono ?_
  rintro e w' ⟨he, hd⟩
  refine ⟨he, ?_⟩
  obtain ⟨n, hn⟩ := hd.out
  exact Fr.of_drewN hn

def Prod (a b : Int) (r : Bool) : Prop := ∀ w : World, Calls Try.prog 16 #[.int .i64 a, .int .i64 b] w fun e w' => e = .returned (.bool r) ∧ w = w'
theorem prod_zero (a b : Int) (h : a = 0 ∨ b = 0) : Prod a b true := by
  intro w
  by_cases za : a = 0
  · subst za
    clear h
    go_enter Try.func16, Try.ntmps16
    go_wp2
    go_ret
    exact ⟨rfl, rfl⟩
  · obtain rfl : b = 0 := by omega
    have e0 : (a == 0) = false := by simp [za]
    clear h
    go_enter Try.func16, Try.ntmps16
    go_wp2
    go_ret
    exact ⟨rfl, rfl⟩
theorem prod_pos (a b : Int) (ha : 0 < a) (hb : 0 < b) (hb2 : Is64 b) : Prod a b (decide (Is64 (a * b))) := by
  intro w
  have e1 : (a == 0) = false := by rw [beq_eq_false_iff_ne]; omega
  have e2 : (b == 0) = false := by rw [beq_eq_false_iff_ne]; omega
  have e3 : ¬ b = 0 := by omega
  have c1 : decide (0 < a) = true := decide_eq_true ha
  have c2 : decide (0 < b) = true := decide_eq_true hb
  have hq : IntKind.i64.wrap ((9223372036854775807 : Int).tdiv b) = 9223372036854775807 / b := IntWalk.i64_quo _ _ (by omega)
  have HF : Hid (decide (a ≤ 9223372036854775807 / b) = decide (Is64 (a * b))) := decide_eq_decide.2 (mul_pos_iff a b ha hb)
  clear hb2
  go_enter Try.func16, Try.ntmps16
  go_wp2
  go_ret
  exact ⟨ret_bool (HF.out), rfl⟩
theorem prod_np (a b : Int) (ha : a < 0) (hb : 0 < b) (ha2 : Is64 a) (hb2 : Is64 b) : Prod a b (decide (Is64 (a * b))) := by
  intro w
  have e1 : (a == 0) = false := by rw [beq_eq_false_iff_ne]; omega
  have e2 : (b == 0) = false := by rw [beq_eq_false_iff_ne]; omega
  have e3 : ¬ b = 0 := by omega
  have c1 : decide (0 < a) = false := decide_eq_false (by omega)
  have c3 : decide (a < 0) = true := decide_eq_true (by omega)
  have c4 : decide (b < 0) = false := decide_eq_false (by omega)
  have hq : IntKind.i64.wrap ((-9223372036854775808 : Int).tdiv b) = (-9223372036854775808 : Int).tdiv b := IntWalk.i64_quo' _ _ (by omega)
  have HF : Hid (decide ((-9223372036854775808 : Int).tdiv b ≤ a) = decide (Is64 (a * b))) := decide_eq_decide.2 (mul_neg_iff a b ha hb ha2.1)
  clear hb2 ha2
  go_enter Try.func16, Try.ntmps16
  go_wp2
  go_ret
  exact ⟨ret_bool (by rw [quo_min b hb]; exact HF.out), rfl⟩
theorem prod_pn (a b : Int) (ha : 0 < a) (hb : b < 0) (ha2 : Is64 a) (hb2 : Is64 b) : Prod a b (decide (Is64 (a * b))) := by
  intro w
  have e1 : (a == 0) = false := by rw [beq_eq_false_iff_ne]; omega
  have e2 : (b == 0) = false := by rw [beq_eq_false_iff_ne]; omega
  have e3 : ¬ a = 0 := by omega
  have c1 : decide (0 < a) = true := decide_eq_true (by omega)
  have c2 : decide (0 < b) = false := decide_eq_false (by omega)
  have c3 : decide (a < 0) = false := decide_eq_false (by omega)
  have hq : IntKind.i64.wrap ((-9223372036854775808 : Int).tdiv a) = (-9223372036854775808 : Int).tdiv a := IntWalk.i64_quo' _ _ (by omega)
  have HF : Hid (decide ((-9223372036854775808 : Int).tdiv a ≤ b) = decide (Is64 (a * b))) := by
    rw [Int.mul_comm]
    exact decide_eq_decide.2 (mul_neg_iff b a hb ha hb2.1)
  clear hb2 ha2
  go_enter Try.func16, Try.ntmps16
  go_wp2
  go_ret
  exact ⟨ret_bool (by rw [quo_min a ha]; exact HF.out), rfl⟩
theorem nn_big (a b : Int) (ha : a < 0) (hb : b < 0) (h : a = -9223372036854775808 ∨ b = -9223372036854775808) : ¬ Is64 (a * b) := by
  intro hI
  have h1 : 0 < (-a) * (-b) := Int.mul_pos (by omega) (by omega)
  rw [Int.neg_mul_neg] at h1
  rcases h with rfl | rfl
  · unfold Is64 at hI; omega
  · unfold Is64 at hI; omega
theorem prod_nn_amin (a b : Int) (ha : a = -9223372036854775808) (hb : b < 0) (hb2 : b ≠ -9223372036854775808) : Prod a b false := by
  intro w
  have e1 : (a == 0) = false := by rw [beq_eq_false_iff_ne]; omega
  have e2 : (b == 0) = false := by rw [beq_eq_false_iff_ne]; omega
  have c1 : decide (0 < a) = false := decide_eq_false (by omega)
  have c3 : decide (a < 0) = true := decide_eq_true (by omega)
  have c4 : decide (b < 0) = true := decide_eq_true (by omega)
  have f1 : (b != -9223372036854775808) = true := by rw [bne_iff_ne]; exact hb2
  have f2 : (a != -9223372036854775808) = false := by rw [ha]; rfl
  have f3 : (a == -1) = false := by rw [beq_eq_false_iff_ne]; omega
  clear hb2 ha
  go_enter Try.func16, Try.ntmps16
  go_wp2
  all_goals (go_ret; exact ⟨rfl, rfl⟩)
theorem prod_nn_bmin (a b : Int) (ha : a < 0) (hb : b = -9223372036854775808) : Prod a b false := by
  intro w
  have e1 : (a == 0) = false := by rw [beq_eq_false_iff_ne]; omega
  have e2 : (b == 0) = false := by rw [beq_eq_false_iff_ne]; omega
  have c1 : decide (0 < a) = false := decide_eq_false (by omega)
  have c3 : decide (a < 0) = true := decide_eq_true (by omega)
  have c4 : decide (b < 0) = true := decide_eq_true (by omega)
  have f1 : (b != -9223372036854775808) = false := by rw [hb]; rfl
  have f3 : (b == -1) = false := by rw [beq_eq_false_iff_ne]; omega
  clear hb
  go_enter Try.func16, Try.ntmps16
  go_wp2
  all_goals (go_ret; exact ⟨rfl, rfl⟩)
theorem prod_nn_yes (a b : Int) (ha : a < 0) (hb : b < 0) (ha2 : -9223372036854775808 < a) (hb2 : -9223372036854775808 < b) (h : -a ≤ 9223372036854775807 / (-b)) : Prod a b true := by
  intro w
  have e1 : (a == 0) = false := by rw [beq_eq_false_iff_ne]; omega
  have e2 : (b == 0) = false := by rw [beq_eq_false_iff_ne]; omega
  have c1 : decide (0 < a) = false := decide_eq_false (by omega)
  have c3 : decide (a < 0) = true := decide_eq_true (by omega)
  have c4 : decide (b < 0) = true := decide_eq_true (by omega)
  have f1 : (b != -9223372036854775808) = true := by rw [bne_iff_ne]; omega
  have f2 : (a != -9223372036854775808) = true := by rw [bne_iff_ne]; omega
  have n1 : IntKind.i64.wrap (-a) = -a := IntWalk.i64_in _ (by omega)
  have n2 : IntKind.i64.wrap (-b) = -b := IntWalk.i64_in _ (by omega)
  have e3 : ¬ b = 0 := by omega
  have hd : decide (-a ≤ wrap64 (-Int.tdiv 9223372036854775807 b)) = true := by rw [quo_max b (by omega)]; exact decide_eq_true h
  clear h
  go_enter Try.func16, Try.ntmps16
  go_wp2
  all_goals (go_ret; exact ⟨rfl, rfl⟩)
theorem prod_nn_no (a b : Int) (ha : a < -1) (hb : b < -1) (ha2 : -9223372036854775808 < a) (hb2 : -9223372036854775808 < b) (h : ¬ -a ≤ 9223372036854775807 / (-b)) : Prod a b false := by
  intro w
  have e1 : (a == 0) = false := by rw [beq_eq_false_iff_ne]; omega
  have e2 : (b == 0) = false := by rw [beq_eq_false_iff_ne]; omega
  have c1 : decide (0 < a) = false := decide_eq_false (by omega)
  have c3 : decide (a < 0) = true := decide_eq_true (by omega)
  have c4 : decide (b < 0) = true := decide_eq_true (by omega)
  have f1 : (b != -9223372036854775808) = true := by rw [bne_iff_ne]; omega
  have f2 : (a != -9223372036854775808) = true := by rw [bne_iff_ne]; omega
  have f3 : (b == -1) = false := by rw [beq_eq_false_iff_ne]; omega
  have f4 : (a == -1) = false := by rw [beq_eq_false_iff_ne]; omega
  have n1 : IntKind.i64.wrap (-a) = -a := IntWalk.i64_in _ (by omega)
  have n2 : IntKind.i64.wrap (-b) = -b := IntWalk.i64_in _ (by omega)
  have e3 : ¬ b = 0 := by omega
  have hd : decide (-a ≤ wrap64 (-Int.tdiv 9223372036854775807 b)) = false := by rw [quo_max b (by omega)]; exact decide_eq_false h
  clear h
  go_enter Try.func16, Try.ntmps16
  go_wp2
  all_goals (go_ret; exact ⟨rfl, rfl⟩)
theorem prod_any (a b : Int) (ha : Is64 a) (hb : Is64 b) : Prod a b (decide (Is64 (a * b))) := by
  by_cases z : a = 0 ∨ b = 0
  · have : decide (Is64 (a * b)) = true := decide_eq_true (by rcases z with rfl | rfl <;> simp <;> assumption)
    rw [this]; exact prod_zero a b z
  by_cases pa : 0 < a
  · by_cases pb : 0 < b
    · exact prod_pos a b pa pb hb
    · exact prod_pn a b pa (by omega) ha hb
  · by_cases pb : 0 < b
    · exact prod_np a b (by omega) pb ha hb
    · have na : a < 0 := by omega
      have nb : b < 0 := by omega
      by_cases m1 : b = -9223372036854775808
      · rw [decide_eq_false (nn_big a b na nb (.inr m1))]; exact prod_nn_bmin a b na m1
      by_cases m2 : a = -9223372036854775808
      · rw [decide_eq_false (nn_big a b na nb (.inl m2))]; exact prod_nn_amin a b m2 nb m1
      have key : -a ≤ 9223372036854775807 / (-b) ↔ Is64 (a * b) := by
        rw [← Int.neg_mul_neg]; exact mul_pos_iff (-a) (-b) (by omega) (by omega)
      have ha2 : -9223372036854775808 < a := by unfold Is64 at ha; omega
      have hb2 : -9223372036854775808 < b := by unfold Is64 at hb; omega
      by_cases c : -a ≤ 9223372036854775807 / (-b)
      · rw [decide_eq_true (key.1 c)]; exact prod_nn_yes a b na nb ha2 hb2 c
      · have hI : ¬ Is64 (a * b) := fun h => c (key.2 h)
        rw [decide_eq_false hI]
        refine prod_nn_no a b ?_ ?_ ha2 hb2 c
        · by_cases e : a = -1
          · exfalso; apply hI; subst e; unfold Is64; omega
          · omega
        · by_cases e : b = -1
          · exfalso; apply hI; subst e; unfold Is64; omega
          · omega

theorem awake_true : PNumTimes.lamplighterlaw01_awake.f 400 = some true := by decide +kernel
theorem awake_any (w : World) : Calls Try.prog 17 #[] w fun e w' => e = .returned (.bool true) ∧ Fr [] w w' :=
  (PNumTimes.lamplighterlaw01_awake.calls 400 true w awake_true).mono fun e w' ⟨he, hb⟩ => ⟨he, Fr.of_below hb⟩

set_option maxHeartbeats 4000000 in
theorem walk (a : Int) (wa : (Lit.int .i64 a).wf = true) (b : Int) (wb : (Lit.int .i64 b).wf = true) {w : World} :
    Calls Try.prog 3 #[.int .i64 a, .int .i64 b] w fun e w' => e = .returned (.bool true) ∧ Fr [] w w' := by
  have ha : Is64 a := by unfold Is64; simpa [Lit.wf, IntKind.min, IntKind.max, IntKind.signed, IntKind.bits] using wa
  have hb : Is64 b := by unfold Is64; simpa [Lit.wf, IntKind.min, IntKind.max, IntKind.signed, IntKind.bits] using wb
  have HM := Lib.hid (mul_any a b ha hb w)
  have HP := Lib.hid (prod_any a b ha hb)
  clear wa wb ha hb
  by_cases hI : Is64 (a * b)
  · rw [if_pos hI, decide_eq_true hI] at HM
    rw [decide_eq_true hI] at HP
    have hw : IntKind.i64.wrap (a * b) = a * b := IntWalk.i64_in _ (by unfold Is64 at hI; omega)
    clear hI
    go_enter Try.func3, Try.ntmps3
    go_wp2_with fail
    refine HM.out.mono ?_
    rintro e w1 ⟨rfl, hF⟩
    have HF := Lib.hid hF
    clear hF
    go_wp2_with fail
    refine (HP.out _).mono ?_
    rintro e w' ⟨rfl, rfl⟩
    go_wp2_with fail
    refine (awake_any _).mono ?_
    rintro e w2 ⟨rfl, hF2⟩
    have HF2 := Lib.hid hF2
    clear hF2
    go_wp2_with fail
    refine (HP.out _).mono ?_
    rintro e w' ⟨rfl, rfl⟩
    go_wp2
    go_ret
    exact ⟨rfl, HF.out.trans0 HF2.out⟩
  · rw [if_neg hI, decide_eq_false hI] at HM
    rw [decide_eq_false hI] at HP
    clear hI
    go_enter Try.func3, Try.ntmps3
    go_wp2_with fail
    refine HM.out.mono ?_
    rintro e w1 ⟨rfl, hF⟩
    have HF := Lib.hid hF
    clear hF
    go_wp2_with fail
    refine (HP.out _).mono ?_
    rintro e w' ⟨rfl, rfl⟩
    go_wp2_with fail
    refine (awake_any _).mono ?_
    rintro e w2 ⟨rfl, hF2⟩
    have HF2 := Lib.hid hF2
    clear hF2
    go_wp2_with fail
    refine (HP.out _).mono ?_
    rintro e w' ⟨rfl, rfl⟩
    go_wp2
    go_ret
    exact ⟨rfl, HF.out.trans0 HF2.out⟩
end Go.Proofs.Ytcnoaflojojfkab.NumProducts
