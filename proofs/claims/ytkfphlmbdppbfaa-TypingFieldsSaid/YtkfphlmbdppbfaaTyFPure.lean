/- TypingFields as a function over numbers: it is true of all of them. No condition. -/
import Derived.Test.YtkfphlmbdppbfaaTyF
import Derived.Test.YtkfphlmbdppbfaaBits
namespace Go.Proofs.Ytkfphlmbdppbfaa.TyF
open Go Go.Proofs.Ytkfphlmbdppbfaa.Vm
set_option linter.unusedVariables false
set_option linter.unusedSimpArgs false
set_option maxRecDepth 100000
theorem F45_true (κ : Bool → Option Res) : F45 99 κ = κ true := by kernel_rfl
theorem e0 (n : Int) : bits .and .i64 (Int.fdiv n (2 ^ min ((IntKind.wrap .u64 ((0 : Int)))).toNat (IntKind.bits .i64))) (1 : Int) = n % 2 := by
  rw [and1, show ((2 : Int) ^ min ((IntKind.wrap .u64 ((0 : Int)))).toNat (IntKind.bits .i64)) = 1 from by kernel_rfl, Int.fdiv_eq_ediv_of_nonneg _ (by omega)]
  omega
theorem e1 (n : Int) : bits .and .i64 (Int.fdiv n (2 ^ min ((IntKind.wrap .u64 (1 : Int))).toNat (IntKind.bits .i64))) (1 : Int) = n / 2 % 2 := by
  rw [and1, show ((2 : Int) ^ min ((IntKind.wrap .u64 (1 : Int))).toNat (IntKind.bits .i64)) = 2 from by kernel_rfl, Int.fdiv_eq_ediv_of_nonneg _ (by omega)]
theorem e2 (n : Int) : bits .and .i64 (Int.fdiv n (2 ^ min ((IntKind.wrap .u64 ((2 : Int)))).toNat (IntKind.bits .i64))) (1 : Int) = n / 4 % 2 := by
  rw [and1, show ((2 : Int) ^ min ((IntKind.wrap .u64 ((2 : Int)))).toNat (IntKind.bits .i64)) = 4 from by kernel_rfl, Int.fdiv_eq_ediv_of_nonneg _ (by omega)]
theorem s0 (k : Nat) (κ : Bool → Option Res) (n : Int) (l : List ByteArray) (hl : l.length ≤ 3) (x : Int) (y : T5) (K : List ByteArray × Int → Option Res) :
    L8_1 (k + 1) κ n l 0 x y K = if (n % 2 == 1) = true then L8_1 k κ n (l ++ [⟨#[65]⟩]) 1 x y K else L8_1 k κ n l 1 x y K := by
  have g : decide ((l.length + ([(([(⟨#[65]⟩ : ByteArray), (⟨#[66]⟩ : ByteArray), (⟨#[67]⟩ : ByteArray)] : List ByteArray).getD (0 : Int).toNat (⟨#[]⟩ : ByteArray))] : List ByteArray).length) * 16 ≤ 140737488355328) = true := decide_eq_true (by simp only [List.length_cons, List.length_nil]; omega)
  rw [L8_1, L8_1_B, e0]
  simp only [chk1_eq, chk2_eq, chk3_eq, chk4_eq, chk5_eq, chk6_eq, chk7_eq, chk8_eq]
  rw [if_pos (by decide), if_pos (by decide)]
  by_cases h : (n % 2 == 1) = true
  · rw [if_pos h, if_pos h, if_pos g, if_pos (by decide)]; rfl
  · rw [if_neg h, if_neg h]; rfl
theorem s1 (k : Nat) (κ : Bool → Option Res) (n : Int) (l : List ByteArray) (hl : l.length ≤ 3) (x : Int) (y : T5) (K : List ByteArray × Int → Option Res) :
    L8_1 (k + 1) κ n l 1 x y K = if (n / 2 % 2 == 1) = true then L8_1 k κ n (l ++ [⟨#[66]⟩]) 2 x y K else L8_1 k κ n l 2 x y K := by
  have g : decide ((l.length + ([(([(⟨#[65]⟩ : ByteArray), (⟨#[66]⟩ : ByteArray), (⟨#[67]⟩ : ByteArray)] : List ByteArray).getD (1 : Int).toNat (⟨#[]⟩ : ByteArray))] : List ByteArray).length) * 16 ≤ 140737488355328) = true := decide_eq_true (by simp only [List.length_cons, List.length_nil]; omega)
  rw [L8_1, L8_1_B, e1]
  simp only [chk1_eq, chk2_eq, chk3_eq, chk4_eq, chk5_eq, chk6_eq, chk7_eq, chk8_eq]
  rw [if_pos (by decide), if_pos (by decide)]
  by_cases h : (n / 2 % 2 == 1) = true
  · rw [if_pos h, if_pos h, if_pos g, if_pos (by decide)]; rfl
  · rw [if_neg h, if_neg h]; rfl
theorem s2 (k : Nat) (κ : Bool → Option Res) (n : Int) (l : List ByteArray) (hl : l.length ≤ 3) (x : Int) (y : T5) (K : List ByteArray × Int → Option Res) :
    L8_1 (k + 1) κ n l 2 x y K = if (n / 4 % 2 == 1) = true then L8_1 k κ n (l ++ [⟨#[67]⟩]) 3 x y K else L8_1 k κ n l 3 x y K := by
  have g : decide ((l.length + ([(([(⟨#[65]⟩ : ByteArray), (⟨#[66]⟩ : ByteArray), (⟨#[67]⟩ : ByteArray)] : List ByteArray).getD (2 : Int).toNat (⟨#[]⟩ : ByteArray))] : List ByteArray).length) * 16 ≤ 140737488355328) = true := decide_eq_true (by simp only [List.length_cons, List.length_nil]; omega)
  rw [L8_1, L8_1_B, e2]
  simp only [chk1_eq, chk2_eq, chk3_eq, chk4_eq, chk5_eq, chk6_eq, chk7_eq, chk8_eq]
  rw [if_pos (by decide), if_pos (by decide)]
  by_cases h : (n / 4 % 2 == 1) = true
  · rw [if_pos h, if_pos h, if_pos g, if_pos (by decide)]; rfl
  · rw [if_neg h, if_neg h]; rfl
theorem L8_all (κ : Bool → Option Res) (n : Int) (x : Int) (y : T5) (K : List ByteArray × Int → Option Res) (a b c : Int) (ha : n % 2 = a) (hb : n / 2 % 2 = b) (hc : n / 4 % 2 = c) :
    L8_1 99 κ n [] 0 x y K = K ((if (a == 1) = true then [⟨#[65]⟩] else []) ++ (if (b == 1) = true then [⟨#[66]⟩] else []) ++ (if (c == 1) = true then [⟨#[67]⟩] else []), 3) := by
  have e : ∀ (k : Nat) (l : List ByteArray), L8_1 (k + 1) κ n l 3 x y K = K (l, 3) := fun k l => by rw [L8_1, L8_1_B]; rfl
  rw [s0 98 κ n [] (by decide), ha]
  by_cases h1 : (a == 1) = true
  · rw [if_pos h1, if_pos h1, s1 97 κ n _ (by decide), hb]
    by_cases h2 : (b == 1) = true
    · rw [if_pos h2, if_pos h2, s2 96 κ n _ (by decide), hc]
      by_cases h3 : (c == 1) = true
      · rw [if_pos h3, if_pos h3]; exact e 95 _
      · rw [if_neg h3, if_neg h3]; exact e 95 _
    · rw [if_neg h2, if_neg h2, s2 96 κ n _ (by decide), hc]
      by_cases h3 : (c == 1) = true
      · rw [if_pos h3, if_pos h3]; exact e 95 _
      · rw [if_neg h3, if_neg h3]; exact e 95 _
  · rw [if_neg h1, if_neg h1, s1 97 κ n _ (by decide), hb]
    by_cases h2 : (b == 1) = true
    · rw [if_pos h2, if_pos h2, s2 96 κ n _ (by decide), hc]
      by_cases h3 : (c == 1) = true
      · rw [if_pos h3, if_pos h3]; exact e 95 _
      · rw [if_neg h3, if_neg h3]; exact e 95 _
    · rw [if_neg h2, if_neg h2, s2 96 κ n _ (by decide), hc]
      by_cases h3 : (c == 1) = true
      · rw [if_pos h3, if_pos h3]; exact e 95 _
      · rw [if_neg h3, if_neg h3]; exact e 95 _
theorem F8_true (n : Int) (κ : Bool → Option Res) : F8 100 n κ = κ true := by
  obtain ⟨d, hd, e⟩ : ∃ d, (d = 0 ∨ d = 1 ∨ d = 2 ∨ d = 3 ∨ d = 4 ∨ d = 5 ∨ d = 6 ∨ d = 7) ∧ n % 8 = d := ⟨_, by omega, rfl⟩
  have ha : n % 2 = d % 2 := by omega
  have hb : n / 2 % 2 = d / 2 % 2 := by omega
  have hc : n / 4 % 2 = d / 4 % 2 := by omega
  rw [F8, F8_B]
  simp only [F45_true, and7, L8_all _ n _ _ _ _ _ _ ha hb hc, e]
  clear e ha hb hc
  rcases hd with rfl | rfl | rfl | rfl | rfl | rfl | rfl | rfl <;> (show _ = κ true; kernel_rfl)
end Go.Proofs.Ytkfphlmbdppbfaa.TyF
