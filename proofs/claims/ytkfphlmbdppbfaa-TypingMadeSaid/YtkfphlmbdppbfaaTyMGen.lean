/- What Number and Truth make of picks: predicates that come to their kinds. No condition. -/
import Derived.Test.YtkfphlmbdppbfaaTyM
import Derived.Test.YtkfphlmbdppbfaaBits
namespace Go.Proofs.Ytkfphlmbdppbfaa.TyM
open Go Go.Proofs.Ytkfphlmbdppbfaa.Vm
set_option linter.unusedVariables false
set_option linter.unusedSimpArgs false
set_option maxRecDepth 100000
def F42_N (gF42 : tF42) (a0 : List Int) (a1 a2 : Int) (κ : T8 × Int → Option Res) (x : Int) : Option Res :=
     (chk3 (if (a2 == (0 : Int)) = true then
       (chk3 (if ((Int.tmod x (6 : Int)) == (0 : Int)) = true then
         (chk8 (chk3 (κ (([((1 : Int), (((1 : Int), ((IntKind.wrap .i64 ((bits .and .i64 (Int.fdiv x (2 ^ min ((4 : Int)).toNat (IntKind.bits .i64))) (31 : Int)) - (8 : Int))), ((⟨#[]⟩ : ByteArray), false))), ((⟨#[]⟩ : ByteArray), (⟨#[]⟩ : ByteArray))))] : List T7), (IntKind.wrap .i64 (a1 + (1 : Int)))))))
        else
         (chk6 (if (true && (decide ((0 : Int) ≤ (Int.tmod (Int.fdiv x (2 ^ min ((4 : Int)).toNat (IntKind.bits .i64))) (3 : Int))) && decide ((Int.tmod (Int.fdiv x (2 ^ min ((4 : Int)).toNat (IntKind.bits .i64))) (3 : Int)) < (([(⟨#[97]⟩ : ByteArray), (⟨#[98]⟩ : ByteArray), (⟨#[99]⟩ : ByteArray)] : List ByteArray).length : Int)))) = true then chk6 (κ (([((2 : Int), (((0 : Int), ((0 : Int), ((⟨#[]⟩ : ByteArray), false))), ((([(⟨#[97]⟩ : ByteArray), (⟨#[98]⟩ : ByteArray), (⟨#[99]⟩ : ByteArray)] : List ByteArray).getD (Int.tmod (Int.fdiv x (2 ^ min ((4 : Int)).toNat (IntKind.bits .i64))) (3 : Int)).toNat (⟨#[]⟩ : ByteArray)), (⟨#[120]⟩ : ByteArray))))] : List T7), (IntKind.wrap .i64 (a1 + (1 : Int))))) else none))))
      else
       (chk2 (if decide ((Int.tmod x (6 : Int)) < (2 : Int)) = true then
         (chk2 (if ((Int.tmod x (6 : Int)) == (0 : Int)) = true then
           (chk8 (chk3 (κ (([((1 : Int), (((1 : Int), ((IntKind.wrap .i64 ((bits .and .i64 (Int.fdiv x (2 ^ min ((4 : Int)).toNat (IntKind.bits .i64))) (31 : Int)) - (8 : Int))), ((⟨#[]⟩ : ByteArray), false))), ((⟨#[]⟩ : ByteArray), (⟨#[]⟩ : ByteArray))))] : List T7), (IntKind.wrap .i64 (a1 + (1 : Int)))))))
          else
           (chk6 (if (true && (decide ((0 : Int) ≤ (Int.tmod (Int.fdiv x (2 ^ min ((4 : Int)).toNat (IntKind.bits .i64))) (3 : Int))) && decide ((Int.tmod (Int.fdiv x (2 ^ min ((4 : Int)).toNat (IntKind.bits .i64))) (3 : Int)) < (([(⟨#[97]⟩ : ByteArray), (⟨#[98]⟩ : ByteArray), (⟨#[99]⟩ : ByteArray)] : List ByteArray).length : Int)))) = true then chk6 (κ (([((2 : Int), (((0 : Int), ((0 : Int), ((⟨#[]⟩ : ByteArray), false))), ((([(⟨#[97]⟩ : ByteArray), (⟨#[98]⟩ : ByteArray), (⟨#[99]⟩ : ByteArray)] : List ByteArray).getD (Int.tmod (Int.fdiv x (2 ^ min ((4 : Int)).toNat (IntKind.bits .i64))) (3 : Int)).toNat (⟨#[]⟩ : ByteArray)), (⟨#[120]⟩ : ByteArray))))] : List T7), (IntKind.wrap .i64 (a1 + (1 : Int))))) else none))))
        else
         (chk2 (gF42 a0 (IntKind.wrap .i64 (a1 + (1 : Int))) (IntKind.wrap .i64 (a2 - (1 : Int))) fun x1 =>
          chk3 (if ((Int.tmod x (6 : Int)) == (5 : Int)) = true then
            (chk5 (if decide ((x1.1.length + ([((3 : Int), (((0 : Int), ((0 : Int), ((⟨#[]⟩ : ByteArray), false))), ((⟨#[]⟩ : ByteArray), (⟨#[]⟩ : ByteArray))))] : List T7).length) * 80 ≤ 140737488355328) = true then κ ((x1.1 ++ ([((3 : Int), (((0 : Int), ((0 : Int), ((⟨#[]⟩ : ByteArray), false))), ((⟨#[]⟩ : ByteArray), (⟨#[]⟩ : ByteArray))))] : List T7)), x1.2) else none))
           else
            (chk2 (gF42 a0 x1.2 (IntKind.wrap .i64 (a2 - (1 : Int))) fun x2 =>
             chk2 (if decide ((x1.1.length + x2.1.length) * 80 ≤ 140737488355328) = true then chk8 (if decide (((x1.1 ++ x2.1).length + ([((IntKind.wrap .i64 ((4 : Int) + (Int.tmod (Int.fdiv x (2 ^ min ((4 : Int)).toNat (IntKind.bits .i64))) (3 : Int)))), (((0 : Int), ((0 : Int), ((⟨#[]⟩ : ByteArray), false))), ((⟨#[]⟩ : ByteArray), (⟨#[]⟩ : ByteArray))))] : List T7).length) * 80 ≤ 140737488355328) = true then κ (((x1.1 ++ x2.1) ++ ([((IntKind.wrap .i64 ((4 : Int) + (Int.tmod (Int.fdiv x (2 ^ min ((4 : Int)).toNat (IntKind.bits .i64))) (3 : Int)))), (((0 : Int), ((0 : Int), ((⟨#[]⟩ : ByteArray), false))), ((⟨#[]⟩ : ByteArray), (⟨#[]⟩ : ByteArray))))] : List T7)), x2.2) else none) else none))))))))))
theorem F42_B_eq (gF42 : tF42) (a0 : List Int) (a1 a2 : Int) (κ : T8 × Int → Option Res) : F42_B gF42 a0 a1 a2 κ =
  if decide (a1 < (a0.length : Int)) = true then
    (if (true && (decide ((0 : Int) ≤ a1) && decide (a1 < (a0.length : Int)))) = true then F42_N gF42 a0 a1 a2 κ (bits .and .i64 (a0.getD a1.toNat (0 : Int)) (65535 : Int)) else none)
  else F42_N gF42 a0 a1 a2 κ 0 := by
  rw [F42_B, chk2_eq]
  rfl
def F41_N (gF42 : tF42) (gF41 : tF41) (a0 : List Int) (a1 a2 : Int) (κ : T8 × Int → Option Res) (x : Int) : Option Res :=
     (chk4 (if ((Int.tmod x (7 : Int)) == (6 : Int)) = true then
       (chk8 (chk3 (κ (([((1 : Int), (((3 : Int), ((0 : Int), ((⟨#[]⟩ : ByteArray), decide ((bits .and .i64 (Int.fdiv x (2 ^ min ((4 : Int)).toNat (IntKind.bits .i64))) (1 : Int)) > (0 : Int))))), ((⟨#[]⟩ : ByteArray), (⟨#[]⟩ : ByteArray))))] : List T7), (IntKind.wrap .i64 (a1 + (1 : Int)))))))
      else
       (chk2 (if ((Int.tmod x (7 : Int)) == (5 : Int)) = true then
         (chk6 (if (true && (decide ((0 : Int) ≤ (Int.tmod (Int.fdiv x (2 ^ min ((4 : Int)).toNat (IntKind.bits .i64))) (3 : Int))) && decide ((Int.tmod (Int.fdiv x (2 ^ min ((4 : Int)).toNat (IntKind.bits .i64))) (3 : Int)) < (([(⟨#[97]⟩ : ByteArray), (⟨#[98]⟩ : ByteArray), (⟨#[99]⟩ : ByteArray)] : List ByteArray).length : Int)))) = true then chk8 (chk2 (if (true && (decide ((0 : Int) ≤ (Int.tmod (Int.fdiv x (2 ^ min ((6 : Int)).toNat (IntKind.bits .i64))) (3 : Int))) && decide ((Int.tmod (Int.fdiv x (2 ^ min ((6 : Int)).toNat (IntKind.bits .i64))) (3 : Int)) < (([(⟨#[117]⟩ : ByteArray), (⟨#[118]⟩ : ByteArray), (⟨#[105, 116, 39, 115]⟩ : ByteArray)] : List ByteArray).length : Int)))) = true then chk8 (chk7 (κ (([((2 : Int), (((0 : Int), ((0 : Int), ((⟨#[]⟩ : ByteArray), false))), ((([(⟨#[97]⟩ : ByteArray), (⟨#[98]⟩ : ByteArray), (⟨#[99]⟩ : ByteArray)] : List ByteArray).getD (Int.tmod (Int.fdiv x (2 ^ min ((4 : Int)).toNat (IntKind.bits .i64))) (3 : Int)).toNat (⟨#[]⟩ : ByteArray)), (⟨#[115]⟩ : ByteArray)))), ((1 : Int), (((2 : Int), ((0 : Int), ((([(⟨#[117]⟩ : ByteArray), (⟨#[118]⟩ : ByteArray), (⟨#[105, 116, 39, 115]⟩ : ByteArray)] : List ByteArray).getD (Int.tmod (Int.fdiv x (2 ^ min ((6 : Int)).toNat (IntKind.bits .i64))) (3 : Int)).toNat (⟨#[]⟩ : ByteArray)), false))), ((⟨#[]⟩ : ByteArray), (⟨#[]⟩ : ByteArray)))), ((IntKind.wrap .i64 ((7 : Int) + (Int.tmod (Int.fdiv x (2 ^ min ((8 : Int)).toNat (IntKind.bits .i64))) (6 : Int)))), (((0 : Int), ((0 : Int), ((⟨#[]⟩ : ByteArray), false))), ((⟨#[]⟩ : ByteArray), (⟨#[]⟩ : ByteArray))))] : List T7), (IntKind.wrap .i64 (a1 + (1 : Int)))))) else none)) else none))
        else
         (chk1 (if (a2 == (0 : Int)) = true then
           (chk2 (gF42 a0 (IntKind.wrap .i64 (a1 + (1 : Int))) (imin a2 (2 : Int)) fun x1 =>
            chk2 (gF42 a0 x1.2 (imin a2 (2 : Int)) fun x2 =>
             chk2 (if decide ((x1.1.length + x2.1.length) * 80 ≤ 140737488355328) = true then chk8 (if decide (((x1.1 ++ x2.1).length + ([((IntKind.wrap .i64 ((7 : Int) + (Int.tmod (Int.fdiv x (2 ^ min ((4 : Int)).toNat (IntKind.bits .i64))) (6 : Int)))), (((0 : Int), ((0 : Int), ((⟨#[]⟩ : ByteArray), false))), ((⟨#[]⟩ : ByteArray), (⟨#[]⟩ : ByteArray))))] : List T7).length) * 80 ≤ 140737488355328) = true then κ (((x1.1 ++ x2.1) ++ ([((IntKind.wrap .i64 ((7 : Int) + (Int.tmod (Int.fdiv x (2 ^ min ((4 : Int)).toNat (IntKind.bits .i64))) (6 : Int)))), (((0 : Int), ((0 : Int), ((⟨#[]⟩ : ByteArray), false))), ((⟨#[]⟩ : ByteArray), (⟨#[]⟩ : ByteArray))))] : List T7)), x2.2) else none) else none))))
          else
           (chk2 (if decide ((Int.tmod x (7 : Int)) < (2 : Int)) = true then
             (chk1 (gF42 a0 (IntKind.wrap .i64 (a1 + (1 : Int))) (imin a2 (2 : Int)) fun x3 =>
              chk2 (gF42 a0 x3.2 (imin a2 (2 : Int)) fun x4 =>
               chk2 (if decide ((x3.1.length + x4.1.length) * 80 ≤ 140737488355328) = true then chk8 (if decide (((x3.1 ++ x4.1).length + ([((IntKind.wrap .i64 ((7 : Int) + (Int.tmod (Int.fdiv x (2 ^ min ((4 : Int)).toNat (IntKind.bits .i64))) (6 : Int)))), (((0 : Int), ((0 : Int), ((⟨#[]⟩ : ByteArray), false))), ((⟨#[]⟩ : ByteArray), (⟨#[]⟩ : ByteArray))))] : List T7).length) * 80 ≤ 140737488355328) = true then κ (((x3.1 ++ x4.1) ++ ([((IntKind.wrap .i64 ((7 : Int) + (Int.tmod (Int.fdiv x (2 ^ min ((4 : Int)).toNat (IntKind.bits .i64))) (6 : Int)))), (((0 : Int), ((0 : Int), ((⟨#[]⟩ : ByteArray), false))), ((⟨#[]⟩ : ByteArray), (⟨#[]⟩ : ByteArray))))] : List T7)), x4.2) else none) else none))))
            else
             (chk2 (if ((Int.tmod x (7 : Int)) == (2 : Int)) = true then
               (chk2 (gF41 a0 (IntKind.wrap .i64 (a1 + (1 : Int))) (IntKind.wrap .i64 (a2 - (1 : Int))) fun x5 =>
                chk6 (if decide ((x5.1.length + ([((13 : Int), (((0 : Int), ((0 : Int), ((⟨#[]⟩ : ByteArray), false))), ((⟨#[]⟩ : ByteArray), (⟨#[]⟩ : ByteArray))))] : List T7).length) * 80 ≤ 140737488355328) = true then κ ((x5.1 ++ ([((13 : Int), (((0 : Int), ((0 : Int), ((⟨#[]⟩ : ByteArray), false))), ((⟨#[]⟩ : ByteArray), (⟨#[]⟩ : ByteArray))))] : List T7)), x5.2) else none)))
              else
               (chk2 (gF41 a0 (IntKind.wrap .i64 (a1 + (1 : Int))) (IntKind.wrap .i64 (a2 - (1 : Int))) fun x6 =>
                chk3 (gF41 a0 x6.2 (IntKind.wrap .i64 (a2 - (1 : Int))) fun x7 =>
                 chk2 (if decide ((x6.1.length + x7.1.length) * 80 ≤ 140737488355328) = true then chk8 (if decide (((x6.1 ++ x7.1).length + ([((IntKind.wrap .i64 ((14 : Int) + (bits .and .i64 (Int.fdiv x (2 ^ min ((4 : Int)).toNat (IntKind.bits .i64))) (1 : Int)))), (((0 : Int), ((0 : Int), ((⟨#[]⟩ : ByteArray), false))), ((⟨#[]⟩ : ByteArray), (⟨#[]⟩ : ByteArray))))] : List T7).length) * 80 ≤ 140737488355328) = true then κ (((x6.1 ++ x7.1) ++ ([((IntKind.wrap .i64 ((14 : Int) + (bits .and .i64 (Int.fdiv x (2 ^ min ((4 : Int)).toNat (IntKind.bits .i64))) (1 : Int)))), (((0 : Int), ((0 : Int), ((⟨#[]⟩ : ByteArray), false))), ((⟨#[]⟩ : ByteArray), (⟨#[]⟩ : ByteArray))))] : List T7)), x7.2) else none) else none))))))))))))))
theorem F41_B_eq (gF42 : tF42) (gF41 : tF41) (a0 : List Int) (a1 a2 : Int) (κ : T8 × Int → Option Res) : F41_B gF42 gF41 a0 a1 a2 κ =
  if decide (a1 < (a0.length : Int)) = true then
    (if (true && (decide ((0 : Int) ≤ a1) && decide (a1 < (a0.length : Int)))) = true then F41_N gF42 gF41 a0 a1 a2 κ (bits .and .i64 (a0.getD a1.toNat (0 : Int)) (65535 : Int)) else none)
  else F41_N gF42 gF41 a0 a1 a2 κ 0 := by
  rw [F41_B, chk2_eq]
  rfl
abbrev zB : ByteArray := ⟨#[]⟩
abbrev zV : T2 := (0, (0, (⟨#[]⟩, false)))
abbrev nop (op : Int) : T7 := (op, (((0 : Int), ((0 : Int), ((⟨#[]⟩ : ByteArray), false))), ((⟨#[]⟩ : ByteArray), (⟨#[]⟩ : ByteArray))))
abbrev ncon (v : T2) : T7 := (1, (v, ((⟨#[]⟩ : ByteArray), (⟨#[]⟩ : ByteArray))))
abbrev nfld (v f : ByteArray) : T7 := (2, (((0 : Int), ((0 : Int), ((⟨#[]⟩ : ByteArray), false))), (v, f)))
def isVar (v : ByteArray) : Prop := v = ⟨#[97]⟩ ∨ v = ⟨#[98]⟩ ∨ v = ⟨#[99]⟩
/-- what the picks make: a predicate that comes to a kind -/
inductive Gen : List T7 → Int → Prop where
  | num (n : Int) (h : n ≠ -9223372036854775808) : Gen [ncon (1, (n, (⟨#[]⟩, false)))] 1
  | tru (b : Bool) : Gen [ncon (3, (0, (⟨#[]⟩, b)))] 3
  | txt (s : ByteArray) (h : s = ⟨#[117]⟩ ∨ s = ⟨#[118]⟩ ∨ s = ⟨#[105, 116, 39, 115]⟩) : Gen [ncon (2, (0, (s, false)))] 2
  | fx (v : ByteArray) (h : isVar v) : Gen [nfld v ⟨#[120]⟩] 1
  | fs (v : ByteArray) (h : isVar v) : Gen [nfld v ⟨#[115]⟩] 2
  | neg {X : List T7} (h : Gen X 1) : Gen (X ++ [nop 3]) 1
  | arith {X Y : List T7} (op : Int) (ho : op = 4 ∨ op = 5 ∨ op = 6) (h : Gen X 1) (h' : Gen Y 1) : Gen ((X ++ Y) ++ [nop op]) 1
  | cmp {X Y : List T7} (op c : Int) (ho : op = 7 ∨ op = 8 ∨ op = 9 ∨ op = 10 ∨ op = 11 ∨ op = 12) (hc : c = 1 ∨ c = 2) (h : Gen X c) (h' : Gen Y c) : Gen ((X ++ Y) ++ [nop op]) 3
  | not {X : List T7} (h : Gen X 3) : Gen (X ++ [nop 13]) 3
  | log {X Y : List T7} (op : Int) (ho : op = 14 ∨ op = 15) (h : Gen X 3) (h' : Gen Y 3) : Gen ((X ++ Y) ++ [nop op]) 3
theorem wrapI {x : Int} (h0 : -9223372036854775808 ≤ x) (h1 : x ≤ 9223372036854775807) : IntKind.wrap .i64 x = x := by
  rw [IntKind.wrap_i64]; omega
theorem wrn {n : Int} (h1 : -1000000 ≤ n) (h2 : n ≤ 1000000) : IntKind.wrap .i64 n = n := wrapI (by omega) (by omega)
theorem p4 : ((2 : Int) ^ min ((4 : Int)).toNat (IntKind.bits .i64)) = 16 := by kernel_rfl
theorem p6 : ((2 : Int) ^ min ((6 : Int)).toNat (IntKind.bits .i64)) = 64 := by kernel_rfl
theorem p8 : ((2 : Int) ^ min ((8 : Int)).toNat (IntKind.bits .i64)) = 256 := by kernel_rfl
theorem fd {x : Int} (m : Int) (hm : 0 < m) : Int.fdiv x m = x / m := Int.fdiv_eq_ediv_of_nonneg _ (by omega)
theorem tm {x : Int} (hx : 0 ≤ x) (m : Int) : Int.tmod x m = x % m := Int.tmod_eq_emod_of_nonneg hx
/-- so much of a choice of three -/
theorem three {x : Int} : x % 3 = 0 ∨ x % 3 = 1 ∨ x % 3 = 2 := by omega
theorem abc_var (x : Int) : isVar (([(⟨#[97]⟩ : ByteArray), (⟨#[98]⟩ : ByteArray), (⟨#[99]⟩ : ByteArray)] : List ByteArray).getD (x % 3).toNat (⟨#[]⟩ : ByteArray)) := by
  rcases three (x := x) with h | h | h <;> rw [h]
  · exact .inl rfl
  · exact .inr (.inl rfl)
  · exact .inr (.inr rfl)
theorem abc_ok (x : Int) : (true && (decide ((0 : Int) ≤ x % 3) && decide (x % 3 < (([(⟨#[97]⟩ : ByteArray), (⟨#[98]⟩ : ByteArray), (⟨#[99]⟩ : ByteArray)] : List ByteArray).length : Int)))) = true := by
  rcases three (x := x) with h | h | h <;> rw [h] <;> rfl
theorem F42_eq (p : List Int) : ∀ (d : Nat) (k a : Nat), d ≤ 3 → d + 1 ≤ k → a + 2 ^ (d + 1) ≤ 1000 → ∃ (X : List T7) (b : Nat), Gen X 1 ∧ X.length + 1 ≤ 2 ^ (d + 1) ∧ b ≤ a + X.length ∧ ∀ κ, F42 k p (a : Int) (d : Int) κ = κ (X, (b : Int)) := by
  intro d
  induction d with
  | zero =>
    intro k a hd hk ha
    obtain ⟨k, rfl⟩ : ∃ k', k = k' + 1 := ⟨k - 1, by omega⟩
    have main : ∀ x : Int, 0 ≤ x → ∃ (X : List T7) (b : Nat), Gen X 1 ∧ X.length + 1 ≤ 2 ^ (0 + 1) ∧ b ≤ a + X.length ∧ ∀ κ, F42_N (fun a0 a1 a2 κ => F42 k a0 a1 a2 κ) p (a : Int) ((0 : Nat) : Int) κ x = κ (X, (b : Int)) := by
      intro x hx
      by_cases h0 : (x % 6 == 0) = true
      · refine ⟨_, a + 1, Gen.num (x / 16 % 32 - 8) (by omega), by simp, by simp, fun κ => ?_⟩
        unfold F42_N
        simp only [chk1_eq, chk2_eq, chk3_eq, chk4_eq, chk5_eq, chk6_eq, chk7_eq, chk8_eq, tm hx, h0, p4, fd 16 (by omega), and31, if_true]
        rw [if_pos (by rfl), wrn (by omega) (by omega), wrn (by omega) (by omega)]
        rfl
      · refine ⟨_, a + 1, Gen.fx (([(⟨#[97]⟩ : ByteArray), (⟨#[98]⟩ : ByteArray), (⟨#[99]⟩ : ByteArray)] : List ByteArray).getD (x / 16 % 3).toNat (⟨#[]⟩ : ByteArray)) (abc_var _), by simp, by simp, fun κ => ?_⟩
        unfold F42_N
        simp only [chk1_eq, chk2_eq, chk3_eq, chk4_eq, chk5_eq, chk6_eq, chk7_eq, chk8_eq, tm hx, h0, p4, fd 16 (by omega), tm (show 0 ≤ x / 16 by omega)]
        rw [if_pos (by rfl), if_neg (by simp), if_pos (abc_ok _), wrn (by omega) (by omega)]
        rfl
    by_cases h : a < p.length
    · obtain ⟨X, b, h1, h2, h3, h4⟩ := main (bits .and .i64 (p.getD (a : Int).toNat (0 : Int)) (65535 : Int)) (by rw [and65535]; omega)
      refine ⟨X, b, h1, h2, h3, fun κ => ?_⟩
      rw [F42, F42_B_eq, if_pos (by simpa using h), if_pos (by simp; omega)]
      exact h4 κ
    · obtain ⟨X, b, h1, h2, h3, h4⟩ := main 0 (by omega)
      refine ⟨X, b, h1, h2, h3, fun κ => ?_⟩
      rw [F42, F42_B_eq, if_neg (by simpa using h)]
      exact h4 κ
  | succ d ih =>
    intro k a hd hk ha
    obtain ⟨k, rfl⟩ : ∃ k', k = k' + 1 := ⟨k - 1, by omega⟩
    have hp : 2 ^ (d + 1 + 1) = 2 * 2 ^ (d + 1) := by rw [Nat.pow_succ]; omega
    have hp1 : 1 ≤ 2 ^ (d + 1) := Nat.one_le_two_pow
    have hp2 : 2 ^ (d + 1 + 1) ≤ 16 := by
      have : d + 1 + 1 ≤ 4 := by omega
      exact Nat.pow_le_pow_right (by omega) this
    have main : ∀ x : Int, 0 ≤ x → ∃ (X : List T7) (b : Nat), Gen X 1 ∧ X.length + 1 ≤ 2 ^ (d + 1 + 1) ∧ b ≤ a + X.length ∧ ∀ κ, F42_N (fun a0 a1 a2 κ => F42 k a0 a1 a2 κ) p (a : Int) ((d + 1 : Nat) : Int) κ x = κ (X, (b : Int)) := by
      intro x hx
      have hz : ¬ (((d + 1 : Nat) : Int) == 0) = true := by simp; omega
      have hw1 : IntKind.wrap .i64 ((a : Int) + 1) = ((a + 1 : Nat) : Int) := by rw [wrn (by omega) (by omega)]; omega
      have hw2 : IntKind.wrap .i64 (((d + 1 : Nat) : Int) - 1) = (d : Int) := by rw [wrn (by omega) (by omega)]; omega
      by_cases h2 : decide (x % 6 < 2) = true
      · by_cases h0 : (x % 6 == 0) = true
        · refine ⟨_, a + 1, Gen.num (x / 16 % 32 - 8) (by omega), by simp; omega, by simp, fun κ => ?_⟩
          unfold F42_N
          simp only [chk1_eq, chk2_eq, chk3_eq, chk4_eq, chk5_eq, chk6_eq, chk7_eq, chk8_eq, tm hx, h0, h2, p4, fd 16 (by omega), and31, if_true]
          rw [if_neg hz, wrn (n := x / 16 % 32 - 8) (by omega) (by omega), hw1]
        · refine ⟨_, a + 1, Gen.fx (([(⟨#[97]⟩ : ByteArray), (⟨#[98]⟩ : ByteArray), (⟨#[99]⟩ : ByteArray)] : List ByteArray).getD (x / 16 % 3).toNat (⟨#[]⟩ : ByteArray)) (abc_var _), by simp; omega, by simp, fun κ => ?_⟩
          unfold F42_N
          simp only [chk1_eq, chk2_eq, chk3_eq, chk4_eq, chk5_eq, chk6_eq, chk7_eq, chk8_eq, tm hx, h2, p4, fd 16 (by omega), tm (show 0 ≤ x / 16 by omega), if_true]
          rw [if_neg hz, if_neg h0, if_pos (abc_ok _), hw1]
      · obtain ⟨X, b, g1, l1, b1, e1⟩ := ih k (a + 1) (by omega) (by omega) (by omega)
        by_cases h5 : (x % 6 == 5) = true
        · refine ⟨_, b, Gen.neg g1, by simp; omega, by simp; omega, fun κ => ?_⟩
          unfold F42_N
          simp only [chk1_eq, chk2_eq, chk3_eq, chk4_eq, chk5_eq, chk6_eq, chk7_eq, chk8_eq, tm hx, h5, if_true, hw1, hw2, e1]
          rw [if_neg hz, if_neg h2, if_pos (decide_eq_true (by simp only [List.length_cons, List.length_nil]; omega))]
        · obtain ⟨Y, c, g2, l2, b2, e2⟩ := ih k b (by omega) (by omega) (by omega)
          have ho : 4 + x / 16 % 3 = 4 ∨ 4 + x / 16 % 3 = 5 ∨ 4 + x / 16 % 3 = 6 := by omega
          refine ⟨_, c, Gen.arith (4 + x / 16 % 3) ho g1 g2, by simp; omega, by simp; omega, fun κ => ?_⟩
          unfold F42_N
          simp only [chk1_eq, chk2_eq, chk3_eq, chk4_eq, chk5_eq, chk6_eq, chk7_eq, chk8_eq, tm hx, hw1, hw2, e1, e2, p4, fd 16 (by omega), tm (show 0 ≤ x / 16 by omega)]
          rw [if_neg hz, if_neg h2, if_neg h5, if_pos (decide_eq_true (by omega)), if_pos (decide_eq_true (by simp only [List.length_append, List.length_cons, List.length_nil]; omega)), wrn (n := 4 + x / 16 % 3) (by omega) (by omega)]
    by_cases h : a < p.length
    · obtain ⟨X, b, h1, h2, h3, h4⟩ := main (bits .and .i64 (p.getD (a : Int).toNat (0 : Int)) (65535 : Int)) (by rw [and65535]; omega)
      refine ⟨X, b, h1, h2, h3, fun κ => ?_⟩
      rw [F42, F42_B_eq, if_pos (by simpa using h), if_pos (by simp; omega)]
      exact h4 κ
    · obtain ⟨X, b, h1, h2, h3, h4⟩ := main 0 (by omega)
      refine ⟨X, b, h1, h2, h3, fun κ => ?_⟩
      rw [F42, F42_B_eq, if_neg (by simpa using h)]
      exact h4 κ
theorem txt_is (x : Int) : ([(⟨#[117]⟩ : ByteArray), (⟨#[118]⟩ : ByteArray), (⟨#[105, 116, 39, 115]⟩ : ByteArray)] : List ByteArray).getD (x % 3).toNat (⟨#[]⟩ : ByteArray) = ⟨#[117]⟩ ∨ ([(⟨#[117]⟩ : ByteArray), (⟨#[118]⟩ : ByteArray), (⟨#[105, 116, 39, 115]⟩ : ByteArray)] : List ByteArray).getD (x % 3).toNat (⟨#[]⟩ : ByteArray) = ⟨#[118]⟩ ∨ ([(⟨#[117]⟩ : ByteArray), (⟨#[118]⟩ : ByteArray), (⟨#[105, 116, 39, 115]⟩ : ByteArray)] : List ByteArray).getD (x % 3).toNat (⟨#[]⟩ : ByteArray) = ⟨#[105, 116, 39, 115]⟩ := by
  rcases three (x := x) with h | h | h <;> rw [h]
  · exact .inl rfl
  · exact .inr (.inl rfl)
  · exact .inr (.inr rfl)
theorem txt_ok (x : Int) : (true && (decide ((0 : Int) ≤ x % 3) && decide (x % 3 < (([(⟨#[117]⟩ : ByteArray), (⟨#[118]⟩ : ByteArray), (⟨#[105, 116, 39, 115]⟩ : ByteArray)] : List ByteArray).length : Int)))) = true := by
  rcases three (x := x) with h | h | h <;> rw [h] <;> rfl
theorem imin_le {d : Nat} (h : d ≤ 2) : imin (d : Int) (2 : Int) = (d : Int) := by
  rcases (show d = 0 ∨ d = 1 ∨ d = 2 by omega) with h | h | h <;> subst h <;> rfl
theorem six {x : Int} (c : Int) (h : c = x % 6) : 7 + c = 7 ∨ 7 + c = 8 ∨ 7 + c = 9 ∨ 7 + c = 10 ∨ 7 + c = 11 ∨ 7 + c = 12 := by omega
theorem F41_d0 (p : List Int) (k a : Nat) (hk : 2 * 0 + 4 ≤ k) (ha : a + 2 ^ (0 + 2) ≤ 1000) : ∃ (X : List T7) (b : Nat), Gen X 3 ∧ X.length + 1 ≤ 2 ^ (0 + 2) ∧ b ≤ a + X.length ∧ ∀ κ, F41 k p (a : Int) ((0 : Nat) : Int) κ = κ (X, (b : Int)) := by
    obtain ⟨k, rfl⟩ : ∃ k', k = k' + 1 := ⟨k - 1, by omega⟩
    have main : ∀ x : Int, 0 ≤ x → x ≤ 65535 → ∃ (X : List T7) (b : Nat), Gen X 3 ∧ X.length + 1 ≤ 2 ^ (0 + 2) ∧ b ≤ a + X.length ∧ ∀ κ, F41_N (F42 k) (fun a0 a1 a2 κ => F41 k a0 a1 a2 κ) p (a : Int) ((0 : Nat) : Int) κ x = κ (X, (b : Int)) := by
      intro x hx hx2
      have hz : (((0 : Nat) : Int) == 0) = true := by rfl
      have hw1 : IntKind.wrap .i64 ((a : Int) + 1) = ((a + 1 : Nat) : Int) := by rw [wrn (by omega) (by omega)]; omega
      by_cases h6 : (x % 7 == 6) = true
      · refine ⟨_, a + 1, Gen.tru (decide (x / 16 % 2 > 0)), by simp, by simp, fun κ => ?_⟩
        unfold F41_N
        simp only [chk1_eq, chk2_eq, chk3_eq, chk4_eq, chk5_eq, chk6_eq, chk7_eq, chk8_eq, tm hx, h6, p4, fd 16 (by omega), and1, if_true, hw1]
      by_cases h5 : (x % 7 == 5) = true
      · refine ⟨_, a + 1, Gen.cmp (7 + x / 256 % 6) 2 (six _ rfl) (.inr rfl) (Gen.fs (([(⟨#[97]⟩ : ByteArray), (⟨#[98]⟩ : ByteArray), (⟨#[99]⟩ : ByteArray)] : List ByteArray).getD (x / 16 % 3).toNat (⟨#[]⟩ : ByteArray)) (abc_var _)) (Gen.txt _ (txt_is (x / 64))), by simp, by simp, fun κ => ?_⟩
        unfold F41_N
        simp only [chk1_eq, chk2_eq, chk3_eq, chk4_eq, chk5_eq, chk6_eq, chk7_eq, chk8_eq, tm hx, h5, p4, p6, p8, fd 16 (by omega), fd 64 (by omega), fd 256 (by omega), tm (show 0 ≤ x / 16 by omega), tm (show 0 ≤ x / 64 by omega), tm (show 0 ≤ x / 256 by omega), if_true, hw1]
        rw [if_neg h6, if_pos (abc_ok _), if_pos (txt_ok _), wrn (n := 7 + x / 256 % 6) (by omega) (by omega)]
        rfl
      obtain ⟨X, b, g1, l1, b1, e1⟩ := F42_eq p 0 k (a + 1) (by omega) (by omega) (by omega)
      obtain ⟨Y, c, g2, l2, b2, e2⟩ := F42_eq p 0 k b (by omega) (by omega) (by omega)
      refine ⟨_, c, Gen.cmp (7 + x / 16 % 6) 1 (six _ rfl) (.inl rfl) g1 g2, by simp; omega, by simp; omega, fun κ => ?_⟩
      unfold F41_N
      simp only [chk1_eq, chk2_eq, chk3_eq, chk4_eq, chk5_eq, chk6_eq, chk7_eq, chk8_eq, tm hx, hw1, imin_le (d := 0) (by omega), e1, e2, p4, fd 16 (by omega), tm (show 0 ≤ x / 16 by omega)]
      rw [if_neg h6, if_neg h5, if_pos hz, if_pos (decide_eq_true (by omega)), if_pos (decide_eq_true (by simp only [List.length_append, List.length_cons, List.length_nil]; omega)), wrn (n := 7 + x / 16 % 6) (by omega) (by omega)]
    by_cases h : a < p.length
    · obtain ⟨X, b, h1, h2, h3, h4⟩ := main (bits .and .i64 (p.getD (a : Int).toNat (0 : Int)) (65535 : Int)) (by rw [and65535]; omega) (by rw [and65535]; omega)
      refine ⟨X, b, h1, h2, h3, fun κ => ?_⟩
      rw [F41, F41_B_eq, if_pos (by simpa using h), if_pos (by simp; omega)]
      exact h4 κ
    · obtain ⟨X, b, h1, h2, h3, h4⟩ := main 0 (by omega) (by omega)
      refine ⟨X, b, h1, h2, h3, fun κ => ?_⟩
      rw [F41, F41_B_eq, if_neg (by simpa using h)]
      exact h4 κ
theorem F41_eq (p : List Int) : ∀ (d : Nat) (k a : Nat), d ≤ 2 → 2 * d + 4 ≤ k → a + 2 ^ (d + 2) ≤ 1000 → ∃ (X : List T7) (b : Nat), Gen X 3 ∧ X.length + 1 ≤ 2 ^ (d + 2) ∧ b ≤ a + X.length ∧ ∀ κ, F41 k p (a : Int) (d : Int) κ = κ (X, (b : Int)) := by
  intro d
  induction d with
  | zero => exact fun k a hd hk ha => F41_d0 p k a hk ha
  | succ d ih =>
    intro k a hd hk ha
    obtain ⟨k, rfl⟩ : ∃ k', k = k' + 1 := ⟨k - 1, by omega⟩
    have hp : 2 ^ (d + 1 + 2) = 2 * 2 ^ (d + 2) := by rw [show d + 1 + 2 = d + 2 + 1 by omega, Nat.pow_succ]; omega
    have hp0 : 2 ^ (d + 2) = 2 * 2 ^ (d + 1) := by rw [show d + 2 = d + 1 + 1 by omega, Nat.pow_succ]; omega
    have hp1 : 4 ≤ 2 ^ (d + 2) := by have := Nat.pow_le_pow_right (show 2 > 0 by omega) (show 2 ≤ d + 2 by omega); omega
    have hp2 : 2 ^ (d + 1 + 2) ≤ 16 := by have := Nat.pow_le_pow_right (show 2 > 0 by omega) (show d + 1 + 2 ≤ 4 by omega); omega
    have main : ∀ x : Int, 0 ≤ x → x ≤ 65535 → ∃ (X : List T7) (b : Nat), Gen X 3 ∧ X.length + 1 ≤ 2 ^ (d + 1 + 2) ∧ b ≤ a + X.length ∧ ∀ κ, F41_N (F42 k) (fun a0 a1 a2 κ => F41 k a0 a1 a2 κ) p (a : Int) ((d + 1 : Nat) : Int) κ x = κ (X, (b : Int)) := by
      intro x hx hx2
      have hz : ¬ (((d + 1 : Nat) : Int) == 0) = true := by simp; omega
      have hw1 : IntKind.wrap .i64 ((a : Int) + 1) = ((a + 1 : Nat) : Int) := by rw [wrn (by omega) (by omega)]; omega
      have hw2 : IntKind.wrap .i64 (((d + 1 : Nat) : Int) - 1) = (d : Int) := by rw [wrn (by omega) (by omega)]; omega
      by_cases h6 : (x % 7 == 6) = true
      · refine ⟨_, a + 1, Gen.tru (decide (x / 16 % 2 > 0)), by simp; omega, by simp, fun κ => ?_⟩
        unfold F41_N
        simp only [chk1_eq, chk2_eq, chk3_eq, chk4_eq, chk5_eq, chk6_eq, chk7_eq, chk8_eq, tm hx, h6, p4, fd 16 (by omega), and1, if_true, hw1]
      by_cases h5 : (x % 7 == 5) = true
      · refine ⟨_, a + 1, Gen.cmp (7 + x / 256 % 6) 2 (six _ rfl) (.inr rfl) (Gen.fs (([(⟨#[97]⟩ : ByteArray), (⟨#[98]⟩ : ByteArray), (⟨#[99]⟩ : ByteArray)] : List ByteArray).getD (x / 16 % 3).toNat (⟨#[]⟩ : ByteArray)) (abc_var _)) (Gen.txt _ (txt_is (x / 64))), by simp; omega, by simp, fun κ => ?_⟩
        unfold F41_N
        simp only [chk1_eq, chk2_eq, chk3_eq, chk4_eq, chk5_eq, chk6_eq, chk7_eq, chk8_eq, tm hx, h5, p4, p6, p8, fd 16 (by omega), fd 64 (by omega), fd 256 (by omega), tm (show 0 ≤ x / 16 by omega), tm (show 0 ≤ x / 64 by omega), tm (show 0 ≤ x / 256 by omega), if_true, hw1]
        rw [if_neg h6, if_pos (abc_ok _), if_pos (txt_ok _), wrn (n := 7 + x / 256 % 6) (by omega) (by omega)]
        rfl
      by_cases h2 : decide (x % 7 < 2) = true
      · obtain ⟨X, b, g1, l1, b1, e1⟩ := F42_eq p (d + 1) k (a + 1) (by omega) (by omega) (by omega)
        obtain ⟨Y, c, g2, l2, b2, e2⟩ := F42_eq p (d + 1) k b (by omega) (by omega) (by omega)
        refine ⟨_, c, Gen.cmp (7 + x / 16 % 6) 1 (six _ rfl) (.inl rfl) g1 g2, by simp; omega, by simp; omega, fun κ => ?_⟩
        unfold F41_N
        simp only [chk1_eq, chk2_eq, chk3_eq, chk4_eq, chk5_eq, chk6_eq, chk7_eq, chk8_eq, tm hx, h2, hw1, imin_le hd, e1, e2, p4, fd 16 (by omega), tm (show 0 ≤ x / 16 by omega), if_true]
        rw [if_neg h6, if_neg h5, if_neg hz, if_pos (decide_eq_true (by omega)), if_pos (decide_eq_true (by simp only [List.length_append, List.length_cons, List.length_nil]; omega)), wrn (n := 7 + x / 16 % 6) (by omega) (by omega)]
      by_cases h1 : (x % 7 == 2) = true
      · obtain ⟨X, b, g1, l1, b1, e1⟩ := ih k (a + 1) (by omega) (by omega) (by omega)
        refine ⟨_, b, Gen.not g1, by simp; omega, by simp; omega, fun κ => ?_⟩
        unfold F41_N
        simp only [chk1_eq, chk2_eq, chk3_eq, chk4_eq, chk5_eq, chk6_eq, chk7_eq, chk8_eq, tm hx, h1, hw1, hw2, e1, if_true]
        rw [if_neg h6, if_neg h5, if_neg hz, if_neg h2, if_pos (decide_eq_true (by simp only [List.length_cons, List.length_nil]; omega))]
      · obtain ⟨X, b, g1, l1, b1, e1⟩ := ih k (a + 1) (by omega) (by omega) (by omega)
        obtain ⟨Y, c, g2, l2, b2, e2⟩ := ih k b (by omega) (by omega) (by omega)
        have ho : 14 + x / 16 % 2 = 14 ∨ 14 + x / 16 % 2 = 15 := by omega
        refine ⟨_, c, Gen.log (14 + x / 16 % 2) ho g1 g2, by simp; omega, by simp; omega, fun κ => ?_⟩
        unfold F41_N
        simp only [chk1_eq, chk2_eq, chk3_eq, chk4_eq, chk5_eq, chk6_eq, chk7_eq, chk8_eq, tm hx, hw1, hw2, e1, e2, p4, fd 16 (by omega), and1]
        rw [if_neg h6, if_neg h5, if_neg hz, if_neg h2, if_neg h1, if_pos (decide_eq_true (by omega)), if_pos (decide_eq_true (by simp only [List.length_append, List.length_cons, List.length_nil]; omega)), wrn (n := 14 + x / 16 % 2) (by omega) (by omega)]
    by_cases h : a < p.length
    · obtain ⟨X, b, h1, h2, h3, h4⟩ := main (bits .and .i64 (p.getD (a : Int).toNat (0 : Int)) (65535 : Int)) (by rw [and65535]; omega) (by rw [and65535]; omega)
      refine ⟨X, b, h1, h2, h3, fun κ => ?_⟩
      rw [F41, F41_B_eq, if_pos (by simpa using h), if_pos (by simp; omega)]
      exact h4 κ
    · obtain ⟨X, b, h1, h2, h3, h4⟩ := main 0 (by omega) (by omega)
      refine ⟨X, b, h1, h2, h3, fun κ => ?_⟩
      rw [F41, F41_B_eq, if_neg (by simpa using h)]
      exact h4 κ
end Go.Proofs.Ytkfphlmbdppbfaa.TyM
