/- Numbers' bytes, seven bits a byte: what the writer puts, what the document's function says, and what the reader takes. No condition. -/
import Derived.Test.YtkfphlmbdppbfaaCoT
import Derived.Lib.EndianBits
import Derived.Laws.Concat
namespace Go.Proofs.Ytkfphlmbdppbfaa.CoT
open Go Go.Proofs.Ytkfphlmbdppbfaa.Vm
set_option linter.unusedVariables false
set_option linter.unusedSimpArgs false
set_option maxRecDepth 100000
/-- a number's bytes, of so many and one at most -/
def enc : Nat → Nat → List Int
  | 0, n => [(n : Int)]
  | f + 1, n => if n < 128 then [(n : Int)] else ((n % 128 + 128 : Nat) : Int) :: enc f (n / 128)
theorem enc_len : ∀ f n, (enc f n).length ≤ f + 1
  | 0, n => by simp [enc]
  | f + 1, n => by
    unfold enc
    split
    · simp
    · have := enc_len f (n / 128); simp only [List.length_cons]; omega
theorem str_size (l : List Int) : (strOf l).size = l.length := by simp [strOf, ByteArray.size]
theorem str_app (a b : List Int) : strOf a ++ strOf b = strOf (a ++ b) := by
  unfold strOf
  rw [ByteArray.mk_append_mk, List.map_append]
theorem w8 {n : Nat} (h : n < 256) : IntKind.wrap .u8 (n : Int) = (n : Int) := by rw [IntKind.wrap_u8]; omega
theorem w64 {n : Nat} (h : n < 18446744073709551616) : IntKind.wrap .u64 (n : Int) = (n : Int) := by rw [IntKind.wrap_u64]; omega
theorem F14_eq : ∀ (f n k : Nat), n < 128 ^ (f + 1) → n < 18446744073709551616 → f + 1 ≤ k → f ≤ 100 → ∀ κ, F14 k (n : Int) κ = κ (strOf (enc f n)) := by
  intro f
  induction f with
  | zero =>
    intro n k hn hn2 hk hf κ
    obtain ⟨k, rfl⟩ : ∃ k', k = k' + 1 := ⟨k - 1, by omega⟩
    rw [F14, F14_B]
    simp only [chk1_eq, chk2_eq, chk3_eq, chk4_eq, chk5_eq, chk6_eq, chk7_eq, chk8_eq]
    rw [if_pos (by simp; omega), w8 (by omega)]
    rfl
  | succ f ih =>
    intro n k hn hn2 hk hf κ
    obtain ⟨k, rfl⟩ : ∃ k', k = k' + 1 := ⟨k - 1, by omega⟩
    rw [F14, F14_B]
    simp only [chk1_eq, chk2_eq, chk3_eq, chk4_eq, chk5_eq, chk6_eq, chk7_eq, chk8_eq]
    unfold enc
    by_cases h : n < 128
    · rw [if_pos (by simp; omega), if_pos h, w8 (by omega)]
    · have hd : IntKind.wrap .u64 (Int.tdiv (n : Int) 128) = ((n / 128 : Nat) : Int) := by
        rw [Int.tdiv_eq_ediv_of_nonneg (by omega), IntKind.wrap_u64]; omega
      have hm : IntKind.wrap .u8 (IntKind.wrap .u8 (Int.tmod (n : Int) 128) + 128) = ((n % 128 + 128 : Nat) : Int) := by
        rw [Int.tmod_eq_emod_of_nonneg (by omega), IntKind.wrap_u8, IntKind.wrap_u8]; omega
      have hp : n / 128 < 128 ^ (f + 1) := by
        rw [Nat.pow_succ] at hn
        exact Nat.div_lt_of_lt_mul (by rw [Nat.mul_comm]; exact hn)
      rw [if_neg (by simp; omega), if_neg h, hd, hm, ih (n / 128) k hp (by omega) (by omega) (by omega)]
      have hl := enc_len f (n / 128)
      rw [if_pos (decide_eq_true (by rw [str_size, str_size]; simp only [List.length_cons, List.length_nil]; omega)), str_app]
      rfl
theorem or128 (n : Nat) : bits .or .u8 (IntKind.wrap .u8 (n : Int)) 128 = ((n % 128 + 128 : Nat) : Int) := by
  have h : ∀ x : Fin 256, bits .or .u8 (x.val : Int) 128 = ((x.val % 128 + 128 : Nat) : Int) := by decide +kernel
  have e : IntKind.wrap .u8 (n : Int) = ((n % 256 : Nat) : Int) := by rw [IntKind.wrap_u8]; omega
  rw [e, h ⟨n % 256, Nat.mod_lt _ (by decide)⟩]
  simp only [Nat.mod_mod_of_dvd n (show 128 ∣ 256 by decide)]
theorem sh7 : ((2 : Int) ^ min ((7 : Int)).toNat (IntKind.bits .u64)) = 128 := by kernel_rfl
theorem F13_eq : ∀ (f n k : Nat) (b : List Int), n < 128 ^ (f + 1) → n < 18446744073709551616 → f + 2 ≤ k → f ≤ 100 → b.length ≤ 1000000 → ∀ κ, F13 k (n : Int) b κ = κ (b ++ enc f n) := by
  have key : ∀ (f n k : Nat) (b : List Int), n < 128 ^ (f + 1) → f + 1 ≤ k → b.length + f ≤ 2000000 → ∀ (κ : List Int → Option Res) (K : Int × List Int → Option Res), (∀ m : Nat, m < 128 → ∀ b' : List Int, b'.length ≤ 2000000 → K ((m : Int), b') = κ (b' ++ [(m : Int)])) → L13_0 k κ (n : Int) b K = κ (b ++ enc f n) := by
    intro f
    induction f with
    | zero =>
      intro n k b hn hk hb κ K hK
      obtain ⟨k, rfl⟩ : ∃ k', k = k' + 1 := ⟨k - 1, by omega⟩
      rw [L13_0, L13_0_B]
      simp only [chk1_eq, chk2_eq, chk3_eq, chk4_eq, chk5_eq, chk6_eq, chk7_eq, chk8_eq]
      rw [if_neg (by simp; omega), hK n (by omega) b (by omega)]
      rfl
    | succ f ih =>
      intro n k b hn hk hb κ K hK
      obtain ⟨k, rfl⟩ : ∃ k', k = k' + 1 := ⟨k - 1, by omega⟩
      rw [L13_0, L13_0_B]
      simp only [chk1_eq, chk2_eq, chk3_eq, chk4_eq, chk5_eq, chk6_eq, chk7_eq, chk8_eq]
      unfold enc
      by_cases h : n < 128
      · rw [if_neg (by simp; omega), if_pos h, hK n h b (by omega)]
      · have hd : Int.fdiv (n : Int) 128 = ((n / 128 : Nat) : Int) := by
          rw [Int.fdiv_eq_ediv_of_nonneg _ (by omega)]; omega
        have hp : n / 128 < 128 ^ (f + 1) := by
          rw [Nat.pow_succ] at hn
          exact Nat.div_lt_of_lt_mul (by rw [Nat.mul_comm]; exact hn)
        rw [if_pos (by simp; omega), if_pos (decide_eq_true (by simp only [List.length_cons, List.length_nil]; omega)), if_neg h, sh7, hd, or128,
          ih (n / 128) k _ hp (by omega) (by simp only [List.length_append, List.length_cons, List.length_nil]; omega) κ K hK, List.append_assoc]
        rfl
  intro f n k b hn hn2 hk hf hb κ
  obtain ⟨k, rfl⟩ : ∃ k', k = k' + 1 := ⟨k - 1, by omega⟩
  rw [F13, F13_B]
  simp only [chk1_eq, chk2_eq, chk3_eq, chk4_eq, chk5_eq, chk6_eq, chk7_eq, chk8_eq]
  refine key f n k b hn (by omega) (by omega) κ _ (fun m hm b' hb' => ?_)
  simp only [w8 (show m < 256 by omega)]
  rw [if_pos (decide_eq_true (by simp only [List.length_cons, List.length_nil]; omega))]
end Go.Proofs.Ytkfphlmbdppbfaa.CoT
