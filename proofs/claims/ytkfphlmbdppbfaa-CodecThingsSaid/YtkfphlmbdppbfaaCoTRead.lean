/- Numbers' bytes are read again. No condition. -/
import Derived.Test.YtkfphlmbdppbfaaCoTEnc
namespace Go.Proofs.Ytkfphlmbdppbfaa.CoT
open Go Go.Proofs.Ytkfphlmbdppbfaa.Vm
set_option linter.unusedVariables false
set_option linter.unusedSimpArgs false
set_option maxRecDepth 100000
theorem wrapI {x : Int} (h0 : -9223372036854775808 ≤ x) (h1 : x ≤ 9223372036854775807) : IntKind.wrap .i64 x = x := by
  rw [IntKind.wrap_i64]; omega
theorem wrn {n : Int} (h1 : -1000000 ≤ n) (h2 : n ≤ 1000000) : IntKind.wrap .i64 n = n := wrapI (by omega) (by omega)
theorem wr1 {i : Nat} (h : i < 1000) : IntKind.wrap .i64 ((i : Int) + 1) = ((i + 1 : Nat) : Int) := by rw [wrn (by omega) (by omega)]; omega
theorem and127 {c : Nat} (h : c < 256) : bits .and .u8 (c : Int) 127 = ((c % 128 : Nat) : Int) := by
  have := bits_mask .u8 8 (by decide) wraps_u8 7 (by decide) (c : Int) (by omega) (by omega)
  rw [show (127 : Int) = 2 ^ 7 - 1 by decide, this]
  omega
theorem pow7 (i : Nat) : (2 : Int) ^ (7 * i) = ((128 ^ i : Nat) : Int) := by
  rw [Int.pow_mul]; simp
theorem orv {c i acc : Nat} (hc : c < 256) (hi : i ≤ 9) (ha : acc < 128 ^ i) (hn : acc + c % 128 * 128 ^ i < 18446744073709551616) :
    bits .or .u64 (acc : Int) (IntKind.wrap .u64 ((IntKind.wrap .u64 ((bits .and .u8 (c : Int) (127 : Int)))) * 2 ^ min ((IntKind.wrap .i64 ((7 : Int) * (i : Int)))).toNat (IntKind.bits .u64))) = ((acc + c % 128 * 128 ^ i : Nat) : Int) := by
  have e1 : min ((IntKind.wrap .i64 ((7 : Int) * (i : Int)))).toNat (IntKind.bits .u64) = 7 * i := by
    rw [wrn (by omega) (by omega)]
    show min ((7 : Int) * (i : Int)).toNat 64 = 7 * i
    omega
  have e2 : IntKind.wrap .u64 (((c % 128 : Nat) : Int)) = ((c % 128 : Nat) : Int) := w64 (by omega)
  have e3 : ((c % 128 : Nat) : Int) * ((128 ^ i : Nat) : Int) = ((c % 128 * 128 ^ i : Nat) : Int) := by rw [Int.natCast_mul]
  rw [e1, and127 hc, e2, pow7, e3, w64 (by omega)]
  have hj := bits_join_low .u64 64 (by decide) wraps_u64 (7 * i) (acc : Int) ((c % 128 * 128 ^ i : Nat) : Int) (by omega) (by rw [pow7]; omega) (by omega) (by omega)
    (by rw [pow7, ← Int.natCast_emod, Nat.mul_mod_left]; rfl) (by omega)
  rw [hj]; omega
theorem L22_eq (rest : List Int) : ∀ (f m i acc k : Nat), i + f ≤ 9 → m < 128 ^ (f + 1) → acc < 128 ^ i → acc + m * 128 ^ i < 18446744073709551616 → (0 < i → 0 < m) → rest.length ≤ 1000000 → f + 2 ≤ k → ∀ κ K,
    L22v1_0 k κ (acc : Int) (i : Int) (enc f m ++ rest) 0 K = κ (((acc + m * 128 ^ i : Nat) : Int), (rest, 0)) := by
  have last : ∀ (m i acc k : Nat), i ≤ 9 → m < 128 → acc < 128 ^ i → acc + m * 128 ^ i < 18446744073709551616 → (0 < i → 0 < m) → rest.length ≤ 1000000 → 2 ≤ k → ∀ κ K,
      L22v1_0 k κ (acc : Int) (i : Int) ((m : Int) :: rest) 0 K = κ (((acc + m * 128 ^ i : Nat) : Int), (rest, 0)) := by
    intro m i acc k hi hm ha hn hc hr hk κ K
    obtain ⟨k, rfl⟩ : ∃ k', k = k' + 1 + 1 := ⟨k - 2, by omega⟩
    have h128 : m % 128 = m := by omega
    have ho := orv (c := m) (i := i) (acc := acc) (by omega) hi ha (by rw [h128]; exact hn)
    rw [h128] at ho
    have h9 : i = 9 → m ≤ 1 := fun h => by
      subst h
      have : (128 : Nat) ^ 9 = 9223372036854775808 := by decide
      omega
    have g0 : ((m : Int) :: rest).getD (0 : Int).toNat (0 : Int) = (m : Int) := rfl
    have hlen : ((m : Int) :: rest).length = rest.length + 1 := rfl
    have gd : List.drop (1 : Int).toNat (List.take ((((m : Int) :: rest).length : Int)).toNat ((m : Int) :: rest)) = rest := by
      rw [Int.toNat_natCast, List.take_length]; rfl
    rw [L22v1_0, L22v1_0_B]
    simp only [chk1_eq, chk2_eq, chk3_eq, chk4_eq, chk5_eq, chk6_eq, chk7_eq, chk8_eq, F29v2, F29v2_B, g0, ho, gd]
    rw [if_pos (decide_eq_true (by omega)), if_neg (by simp), if_neg (by simp <;> omega), if_pos (by simp <;> omega), if_pos (by simp <;> omega), if_pos (decide_eq_true (by rw [wrn (by omega) (by omega)]; omega)), if_neg (by simp; omega)]
    by_cases h0 : 0 < i
    · have := hc h0
      rw [if_pos (by simp; omega), if_neg (by simp; omega)]
      by_cases h : i = 9
      · rw [if_pos (by simp; omega), if_neg (by have := h9 h; simp; omega)]
      · rw [if_neg (by simp; omega), if_neg (by simp)]
    · rw [if_neg (by simp; omega), if_neg (by simp), if_neg (by simp; omega), if_neg (by simp)]
  intro f
  induction f with
  | zero =>
    intro m i acc k hi hm ha hn hc hr hk κ K
    exact last m i acc k (by omega) (by omega) ha hn hc hr (by omega) κ K
  | succ f ih =>
    intro m i acc k hi hm ha hn hc hr hk κ K
    unfold enc
    by_cases h : m < 128
    · rw [if_pos h]
      exact last m i acc k (by omega) h ha hn hc hr (by omega) κ K
    · rw [if_neg h]
      obtain ⟨k, rfl⟩ : ∃ k', k = k' + 1 + 1 := ⟨k - 2, by omega⟩
      have hP : 128 ^ (i + 1) = 128 * 128 ^ i := by rw [Nat.pow_succ, Nat.mul_comm]
      have hdm : m % 128 * 128 ^ i + m / 128 * 128 ^ (i + 1) = m * 128 ^ i := by
        rw [hP, ← Nat.mul_assoc, ← Nat.add_mul, Nat.mod_add_div' m 128]
      have hc2 : (m % 128 + 128) % 128 = m % 128 := by omega
      have ho := orv (c := m % 128 + 128) (i := i) (acc := acc) (by omega) (by omega) ha (by rw [hc2]; omega)
      rw [hc2] at ho
      have hp : m / 128 < 128 ^ (f + 1) := by
        rw [Nat.pow_succ] at hm
        exact Nat.div_lt_of_lt_mul (by rw [Nat.mul_comm]; exact hm)
      have hacc : acc + m % 128 * 128 ^ i < 128 ^ (i + 1) := by
        rw [hP]
        have h1 : m % 128 * 128 ^ i ≤ 127 * 128 ^ i := Nat.mul_le_mul_right _ (by omega)
        omega
      have hl := enc_len f (m / 128)
      have g0 : ((((m % 128 + 128 : Nat) : Int) :: enc f (m / 128)) ++ rest).getD (0 : Int).toNat (0 : Int) = ((m % 128 + 128 : Nat) : Int) := rfl
      have gd : List.drop (1 : Int).toNat (List.take (((((((m % 128 + 128 : Nat) : Int) :: enc f (m / 128)) ++ rest).length : Nat) : Int)).toNat ((((m % 128 + 128 : Nat) : Int) :: enc f (m / 128)) ++ rest)) = enc f (m / 128) ++ rest := by
        rw [Int.toNat_natCast, List.take_length]; rfl
      have hlen : ((((m % 128 + 128 : Nat) : Int) :: enc f (m / 128)) ++ rest).length = (enc f (m / 128)).length + rest.length + 1 := by simp <;> omega
      rw [L22v1_0, L22v1_0_B]
      simp only [chk1_eq, chk2_eq, chk3_eq, chk4_eq, chk5_eq, chk6_eq, chk7_eq, chk8_eq, F29v2, F29v2_B, g0, ho, gd]
      rw [if_pos (decide_eq_true (by omega)), if_neg (by simp), if_neg (by rw [hlen]; simp <;> omega), if_pos (by rw [hlen]; simp <;> omega), if_pos (by rw [hlen]; simp <;> omega), if_pos (decide_eq_true (by rw [wrn (by omega) (by omega)]; omega)), if_pos (by simp; omega), wr1 (by omega)]
      rw [ih (m / 128) (i + 1) (acc + m % 128 * 128 ^ i) (k + 1) (by omega) hp hacc (by omega) (fun _ => by omega) hr (by omega) κ K, Nat.add_assoc, hdm]
theorem F22_eq (n : Nat) (hn : n < 18446744073709551616) (rest : List Int) (hr : rest.length ≤ 1000000) (k : Nat) (hk : 12 ≤ k) (κ : Int × List Int × Int → Option Res) : F22v1 k (enc 9 n ++ rest) 0 κ = κ ((n : Int), (rest, 0)) := by
  obtain ⟨k, rfl⟩ : ∃ k', k = k' + 1 := ⟨k - 1, by omega⟩
  rw [F22v1, F22v1_B]
  simp only [chk1_eq, chk2_eq, chk3_eq, chk4_eq, chk5_eq, chk6_eq, chk7_eq, chk8_eq]
  have hb : (128 : Nat) ^ (9 + 1) = 1180591620717411303424 := by decide
  have h := L22_eq rest 9 n 0 0 k (by omega) (by omega) (by decide) (by simpa using hn) (by omega) hr (by omega) κ
  simp only [Nat.pow_zero, Nat.mul_one, Nat.zero_add] at h
  exact h _
theorem L22_eq2 (rest : List Int) : ∀ (f m i acc k : Nat), i + f ≤ 9 → m < 128 ^ (f + 1) → acc < 128 ^ i → acc + m * 128 ^ i < 18446744073709551616 → (0 < i → 0 < m) → rest.length ≤ 1000000 → f + 2 ≤ k → ∀ κ K,
    L22_0 k κ (acc : Int) (i : Int) (enc f m ++ rest) 0 K = κ (((acc + m * 128 ^ i : Nat) : Int), (rest, 0)) := by
  have last : ∀ (m i acc k : Nat), i ≤ 9 → m < 128 → acc < 128 ^ i → acc + m * 128 ^ i < 18446744073709551616 → (0 < i → 0 < m) → rest.length ≤ 1000000 → 2 ≤ k → ∀ κ K,
      L22_0 k κ (acc : Int) (i : Int) ((m : Int) :: rest) 0 K = κ (((acc + m * 128 ^ i : Nat) : Int), (rest, 0)) := by
    intro m i acc k hi hm ha hn hc hr hk κ K
    obtain ⟨k, rfl⟩ : ∃ k', k = k' + 1 + 1 := ⟨k - 2, by omega⟩
    have h128 : m % 128 = m := by omega
    have ho := orv (c := m) (i := i) (acc := acc) (by omega) hi ha (by rw [h128]; exact hn)
    rw [h128] at ho
    have h9 : i = 9 → m ≤ 1 := fun h => by
      subst h
      have : (128 : Nat) ^ 9 = 9223372036854775808 := by decide
      omega
    have g0 : ((m : Int) :: rest).getD (0 : Int).toNat (0 : Int) = (m : Int) := rfl
    have hlen : ((m : Int) :: rest).length = rest.length + 1 := rfl
    have gd : List.drop (1 : Int).toNat (List.take ((((m : Int) :: rest).length : Int)).toNat ((m : Int) :: rest)) = rest := by
      rw [Int.toNat_natCast, List.take_length]; rfl
    rw [L22_0, L22_0_B]
    simp only [chk1_eq, chk2_eq, chk3_eq, chk4_eq, chk5_eq, chk6_eq, chk7_eq, chk8_eq, F29v2, F29v2_B, g0, ho, gd]
    rw [if_pos (decide_eq_true (by omega)), if_neg (by simp), if_neg (by simp <;> omega), if_pos (by simp <;> omega), if_pos (by simp <;> omega), if_pos (decide_eq_true (by rw [wrn (by omega) (by omega)]; omega)), if_neg (by simp; omega)]
    by_cases h0 : 0 < i
    · have := hc h0
      rw [if_pos (by simp; omega), if_neg (by simp; omega)]
      by_cases h : i = 9
      · rw [if_pos (by simp; omega), if_neg (by have := h9 h; simp; omega)]
      · rw [if_neg (by simp; omega), if_neg (by simp)]
    · rw [if_neg (by simp; omega), if_neg (by simp), if_neg (by simp; omega), if_neg (by simp)]
  intro f
  induction f with
  | zero =>
    intro m i acc k hi hm ha hn hc hr hk κ K
    exact last m i acc k (by omega) (by omega) ha hn hc hr (by omega) κ K
  | succ f ih =>
    intro m i acc k hi hm ha hn hc hr hk κ K
    unfold enc
    by_cases h : m < 128
    · rw [if_pos h]
      exact last m i acc k (by omega) h ha hn hc hr (by omega) κ K
    · rw [if_neg h]
      obtain ⟨k, rfl⟩ : ∃ k', k = k' + 1 + 1 := ⟨k - 2, by omega⟩
      have hP : 128 ^ (i + 1) = 128 * 128 ^ i := by rw [Nat.pow_succ, Nat.mul_comm]
      have hdm : m % 128 * 128 ^ i + m / 128 * 128 ^ (i + 1) = m * 128 ^ i := by
        rw [hP, ← Nat.mul_assoc, ← Nat.add_mul, Nat.mod_add_div' m 128]
      have hc2 : (m % 128 + 128) % 128 = m % 128 := by omega
      have ho := orv (c := m % 128 + 128) (i := i) (acc := acc) (by omega) (by omega) ha (by rw [hc2]; omega)
      rw [hc2] at ho
      have hp : m / 128 < 128 ^ (f + 1) := by
        rw [Nat.pow_succ] at hm
        exact Nat.div_lt_of_lt_mul (by rw [Nat.mul_comm]; exact hm)
      have hacc : acc + m % 128 * 128 ^ i < 128 ^ (i + 1) := by
        rw [hP]
        have h1 : m % 128 * 128 ^ i ≤ 127 * 128 ^ i := Nat.mul_le_mul_right _ (by omega)
        omega
      have hl := enc_len f (m / 128)
      have g0 : ((((m % 128 + 128 : Nat) : Int) :: enc f (m / 128)) ++ rest).getD (0 : Int).toNat (0 : Int) = ((m % 128 + 128 : Nat) : Int) := rfl
      have gd : List.drop (1 : Int).toNat (List.take (((((((m % 128 + 128 : Nat) : Int) :: enc f (m / 128)) ++ rest).length : Nat) : Int)).toNat ((((m % 128 + 128 : Nat) : Int) :: enc f (m / 128)) ++ rest)) = enc f (m / 128) ++ rest := by
        rw [Int.toNat_natCast, List.take_length]; rfl
      have hlen : ((((m % 128 + 128 : Nat) : Int) :: enc f (m / 128)) ++ rest).length = (enc f (m / 128)).length + rest.length + 1 := by simp <;> omega
      rw [L22_0, L22_0_B]
      simp only [chk1_eq, chk2_eq, chk3_eq, chk4_eq, chk5_eq, chk6_eq, chk7_eq, chk8_eq, F29v2, F29v2_B, g0, ho, gd]
      rw [if_pos (decide_eq_true (by omega)), if_neg (by simp), if_neg (by rw [hlen]; simp <;> omega), if_pos (by rw [hlen]; simp <;> omega), if_pos (by rw [hlen]; simp <;> omega), if_pos (decide_eq_true (by rw [wrn (by omega) (by omega)]; omega)), if_pos (by simp; omega), wr1 (by omega)]
      rw [ih (m / 128) (i + 1) (acc + m % 128 * 128 ^ i) (k + 1) (by omega) hp hacc (by omega) (fun _ => by omega) hr (by omega) κ K, Nat.add_assoc, hdm]
theorem F22_eq2 (n : Nat) (hn : n < 18446744073709551616) (rest : List Int) (hr : rest.length ≤ 1000000) (k : Nat) (hk : 12 ≤ k) (κ : Int × List Int × Int → Option Res) : F22 k (enc 9 n ++ rest) 0 κ = κ ((n : Int), (rest, 0)) := by
  obtain ⟨k, rfl⟩ : ∃ k', k = k' + 1 := ⟨k - 1, by omega⟩
  rw [F22, F22_B]
  simp only [chk1_eq, chk2_eq, chk3_eq, chk4_eq, chk5_eq, chk6_eq, chk7_eq, chk8_eq]
  have hb : (128 : Nat) ^ (9 + 1) = 1180591620717411303424 := by decide
  have h := L22_eq2 rest 9 n 0 0 k (by omega) (by omega) (by decide) (by simpa using hn) (by omega) hr (by omega) κ
  simp only [Nat.pow_zero, Nat.mul_one, Nat.zero_add] at h
  exact h _
end Go.Proofs.Ytkfphlmbdppbfaa.CoT
