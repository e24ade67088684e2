/- Numbers with a sign, texts and truths: what is put, what the document says, and what is read again. No condition. -/
import Derived.Test.YtkfphlmbdppbfaaCoTRead
import Derived.Test.YtkfphlmbdppbfaaBits
namespace Go.Proofs.Ytkfphlmbdppbfaa.CoT
open Go Go.Proofs.Ytkfphlmbdppbfaa.Vm
set_option linter.unusedVariables false
set_option linter.unusedSimpArgs false
set_option maxRecDepth 100000
theorem xor0 (x : Int) (h0 : 0 ≤ x) (h1 : x < 18446744073709551616) : bits .xor .u64 x 0 = x := by
  show IntKind.u64.wrap (((BitVec.ofInt 64 x ^^^ BitVec.ofInt 64 0).toNat : Nat) : Int) = x
  rw [show BitVec.ofInt 64 0 = 0#64 from rfl, BitVec.xor_zero, BitVec.toNat_ofInt, IntKind.wrap_u64]
  omega
theorem xor1 (x : Int) (h0 : 0 ≤ x) (h1 : x < 18446744073709551616) : bits .xor .u64 x 18446744073709551615 = 18446744073709551615 - x := by
  show IntKind.u64.wrap (((BitVec.ofInt 64 x ^^^ BitVec.ofInt 64 18446744073709551615).toNat : Nat) : Int) = _
  rw [show BitVec.ofInt 64 18446744073709551615 = BitVec.allOnes 64 from rfl, BitVec.xor_allOnes, BitVec.toNat_not, BitVec.toNat_ofInt, IntKind.wrap_u64]
  omega
theorem xori0 (x : Int) (h0 : 0 ≤ x) (h1 : x ≤ 9223372036854775807) : bits .xor .i64 x 0 = x := by
  show IntKind.i64.wrap (((BitVec.ofInt 64 x ^^^ BitVec.ofInt 64 0).toNat : Nat) : Int) = x
  rw [show BitVec.ofInt 64 0 = 0#64 from rfl, BitVec.xor_zero, BitVec.toNat_ofInt, IntKind.wrap_i64]
  omega
theorem xori1 (x : Int) (h0 : 0 ≤ x) (h1 : x ≤ 9223372036854775807) : bits .xor .i64 x (-1) = -1 - x := by
  show IntKind.i64.wrap (((BitVec.ofInt 64 x ^^^ BitVec.ofInt 64 (-1)).toNat : Nat) : Int) = _
  rw [show BitVec.ofInt 64 (-1) = BitVec.allOnes 64 from rfl, BitVec.xor_allOnes, BitVec.toNat_not, BitVec.toNat_ofInt, IntKind.wrap_i64]
  omega
/-- a number with a sign, as one without -/
def zig (a : Int) : Nat := if 0 ≤ a then (2 * a).toNat else (-2 * a - 1).toNat
def is64 (a : Int) : Prop := -9223372036854775808 ≤ a ∧ a ≤ 9223372036854775807
theorem zig_lt {a : Int} (h : is64 a) : zig a < 18446744073709551616 := by
  obtain ⟨h1, h2⟩ := h
  unfold zig; split <;> omega
theorem s1 : ((2 : Int) ^ min ((1 : Int)).toNat (IntKind.bits .u64)) = 2 := by kernel_rfl
theorem s63 : ((2 : Int) ^ min ((63 : Int)).toNat (IntKind.bits .i64)) = 9223372036854775808 := by kernel_rfl
theorem put_zig {a : Int} (h : is64 a) : bits .xor .u64 (IntKind.wrap .u64 ((IntKind.wrap .u64 (a)) * 2 ^ min ((1 : Int)).toNat (IntKind.bits .u64))) (IntKind.wrap .u64 ((Int.fdiv a (2 ^ min ((63 : Int)).toNat (IntKind.bits .i64))))) = (zig a : Int) := by
  obtain ⟨h1, h2⟩ := h
  rw [s1, s63, Int.fdiv_eq_ediv_of_nonneg _ (by omega)]
  unfold zig
  by_cases h : 0 ≤ a
  · rw [if_pos h, show a / 9223372036854775808 = 0 by omega, show IntKind.wrap .u64 0 = 0 by rw [IntKind.wrap_u64]; omega,
      show IntKind.wrap .u64 (IntKind.wrap .u64 a * 2) = 2 * a by rw [IntKind.wrap_u64, IntKind.wrap_u64]; omega, xor0 _ (by omega) (by omega)]
    omega
  · rw [if_neg h, show a / 9223372036854775808 = -1 by omega, show IntKind.wrap .u64 (-1) = 18446744073709551615 by rw [IntKind.wrap_u64]; omega,
      show IntKind.wrap .u64 (IntKind.wrap .u64 a * 2) = 2 * a + 18446744073709551616 by rw [IntKind.wrap_u64, IntKind.wrap_u64]; omega, xor1 _ (by omega) (by omega)]
    omega
theorem b19 : (128 : Nat) ^ (9 + 1) = 1180591620717411303424 := by decide
theorem F13_nat (n k : Nat) (b : List Int) (hn : n < 18446744073709551616) (hk : 12 ≤ k) (hb : b.length ≤ 1000000) (κ : List Int → Option Res) : F13 k (n : Int) b κ = κ (b ++ enc 9 n) :=
  F13_eq 9 n k b (by have := b19; omega) hn (by omega) (by omega) hb κ
theorem F14_nat (n k : Nat) (hn : n < 18446744073709551616) (hk : 12 ≤ k) (κ : ByteArray → Option Res) : F14 k (n : Int) κ = κ (strOf (enc 9 n)) :=
  F14_eq 9 n k (by have := b19; omega) hn (by omega) (by omega) κ
theorem F15_eq {a : Int} (h : is64 a) (k : Nat) (hk : 13 ≤ k) (b : List Int) (hb : b.length ≤ 1000000) (κ : List Int → Option Res) : F15 k a b κ = κ (b ++ enc 9 (zig a)) := by
  obtain ⟨k, rfl⟩ : ∃ k', k = k' + 1 := ⟨k - 1, by omega⟩
  rw [F15, F15_B]
  simp only [chk1_eq, chk2_eq, chk3_eq, chk4_eq, chk5_eq, chk6_eq, chk7_eq, chk8_eq, put_zig h, F13_nat _ k b (zig_lt h) (by omega) hb]
theorem F16_eq {a : Int} (h : is64 a) (k : Nat) (hk : 13 ≤ k) (κ : ByteArray → Option Res) : F16 k a κ = κ (strOf (enc 9 (zig a))) := by
  obtain ⟨k, rfl⟩ : ∃ k', k = k' + 1 := ⟨k - 1, by omega⟩
  have hz := zig_lt h
  obtain ⟨h1, h2⟩ := h
  rw [F16, F16_B]
  simp only [chk1_eq, chk2_eq, chk3_eq, chk4_eq, chk5_eq, chk6_eq, chk7_eq, chk8_eq]
  by_cases h : 0 ≤ a
  · rw [if_pos (by simpa using h), show IntKind.wrap .u64 (2 * IntKind.wrap .u64 a) = (zig a : Int) by rw [IntKind.wrap_u64, IntKind.wrap_u64]; unfold zig; rw [if_pos h]; omega, F14_nat _ k hz (by omega)]
  · rw [if_neg (by simpa using h), show IntKind.wrap .u64 (IntKind.wrap .u64 (2 * IntKind.wrap .u64 (IntKind.wrap .i64 (0 - IntKind.wrap .i64 (a + 1)))) + 1) = (zig a : Int) by
      rw [wrapI (x := a + 1) (by omega) (by omega), wrapI (by omega) (by omega), IntKind.wrap_u64, IntKind.wrap_u64, IntKind.wrap_u64]; unfold zig; rw [if_neg h]; omega, F14_nat _ k hz (by omega)]
theorem and1u {n : Nat} (h : n < 18446744073709551616) : bits .and .u64 (n : Int) 1 = ((n % 2 : Nat) : Int) := by
  have := bits_mask .u64 64 (by decide) wraps_u64 1 (by decide) (n : Int) (by omega) (by omega)
  rw [show (1 : Int) = 2 ^ 1 - 1 by decide, this]
  omega
theorem get_zig {a : Int} (h : is64 a) : bits .xor .i64 (IntKind.wrap .i64 ((Int.fdiv (zig a : Int) (2 ^ min ((1 : Int)).toNat (IntKind.bits .u64))))) (IntKind.wrap .i64 ((0 : Int) - (IntKind.wrap .i64 ((bits .and .u64 (zig a : Int) (1 : Int)))))) = a := by
  have hz := zig_lt h
  obtain ⟨h1, h2⟩ := h
  rw [s1, Int.fdiv_eq_ediv_of_nonneg _ (by omega), and1u hz]
  by_cases h : 0 ≤ a
  · have e : zig a = (2 * a).toNat := by unfold zig; rw [if_pos h]
    rw [show (zig a : Int) / 2 = a by omega, show ((zig a % 2 : Nat) : Int) = 0 by omega, wrapI (by omega) (by omega), wrapI (x := 0) (by omega) (by omega), wrapI (by omega) (by omega)]
    exact xori0 a h h2
  · have e : zig a = (-2 * a - 1).toNat := by unfold zig; rw [if_neg h]
    rw [show (zig a : Int) / 2 = -1 - a by omega, show ((zig a % 2 : Nat) : Int) = 1 by omega, wrapI (by omega) (by omega), wrapI (x := 1) (by omega) (by omega), wrapI (by omega) (by omega)]
    rw [show (0 : Int) - 1 = -1 by omega, xori1 _ (by omega) (by omega)]
    omega
theorem F23_eq {a : Int} (h : is64 a) (rest : List Int) (hr : rest.length ≤ 1000000) (k : Nat) (hk : 13 ≤ k) (κ : Int × List Int × Int → Option Res) : F23 k (enc 9 (zig a) ++ rest) 0 κ = κ (a, (rest, 0)) := by
  obtain ⟨k, rfl⟩ : ∃ k', k = k' + 1 := ⟨k - 1, by omega⟩
  rw [F23, F23_B]
  simp only [chk1_eq, chk2_eq, chk3_eq, chk4_eq, chk5_eq, chk6_eq, chk7_eq, chk8_eq]
  rw [F22_eq _ (zig_lt h) rest hr k (by omega)]
  show κ (bits .xor .i64 _ _, (rest, 0)) = κ (a, (rest, 0))
  rw [get_zig h]
theorem str_bytes (s : ByteArray) : strOf (bytesOf s) = s := by
  obtain ⟨⟨l⟩⟩ := s
  unfold strOf bytesOf
  rw [List.map_map]
  have : ((fun n : Int => UInt8.ofNat n.toNat) ∘ fun b : UInt8 => ((b.toNat : Nat) : Int)) = id := by
    funext b
    show UInt8.ofNat ((b.toNat : Nat) : Int).toNat = b
    rw [Int.toNat_natCast, UInt8.ofNat_toNat]
  rw [this, List.map_id]
theorem bytes_len (s : ByteArray) : (bytesOf s).length = s.size := by
  unfold bytesOf
  rw [List.length_map]
  exact Array.length_toList
theorem F17_eq (t : ByteArray) (ht : t.size ≤ 1000) (k : Nat) (hk : 13 ≤ k) (b : List Int) (hb : b.length ≤ 100000) (κ : List Int → Option Res) : F17 k t b κ = κ (b ++ (enc 9 t.size ++ bytesOf t)) := by
  obtain ⟨k, rfl⟩ : ∃ k', k = k' + 1 := ⟨k - 1, by omega⟩
  have hl := enc_len 9 t.size
  rw [F17, F17_B]
  simp only [chk1_eq, chk2_eq, chk3_eq, chk4_eq, chk5_eq, chk6_eq, chk7_eq, chk8_eq, w64 (show t.size < 18446744073709551616 by omega), F13_nat _ k b (show t.size < 18446744073709551616 by omega) (by omega) (by omega)]
  rw [if_pos (decide_eq_true (by rw [bytes_len]; simp only [List.length_append]; omega)), List.append_assoc]
theorem F18_eq (t : ByteArray) (ht : t.size ≤ 1000) (k : Nat) (hk : 13 ≤ k) (κ : ByteArray → Option Res) : F18 k t κ = κ (strOf (enc 9 t.size ++ bytesOf t)) := by
  obtain ⟨k, rfl⟩ : ∃ k', k = k' + 1 := ⟨k - 1, by omega⟩
  have hl := enc_len 9 t.size
  rw [F18, F18_B]
  simp only [chk1_eq, chk2_eq, chk3_eq, chk4_eq, chk5_eq, chk6_eq, chk7_eq, chk8_eq, w64 (show t.size < 18446744073709551616 by omega), F14_nat _ k (show t.size < 18446744073709551616 by omega) (by omega)]
  rw [if_pos (decide_eq_true (by rw [str_size]; omega)), ← str_app, str_bytes]
theorem F24_eq (t : ByteArray) (ht : t.size ≤ 1000) (rest : List Int) (hr : rest.length ≤ 100000) (k : Nat) (hk : 14 ≤ k) (κ : ByteArray × List Int × Int → Option Res) : F24 k ((enc 9 t.size ++ bytesOf t) ++ rest) 0 κ = κ (t, (rest, 0)) := by
  obtain ⟨k, rfl⟩ : ∃ k', k = k' + 1 + 1 := ⟨k - 2, by omega⟩
  have hl := bytes_len t
  have hx : imax (1 : Int) (1 : Int) = 1 := rfl
  have h82 : ∀ κ, F82v1 (k + 1) 1 ((enc 9 t.size ++ bytesOf t) ++ rest) 0 κ = κ ((t.size : Int), (bytesOf t ++ rest, 0)) := by
    intro κ
    obtain ⟨k, rfl⟩ : ∃ k', k = k' + 1 := ⟨k - 1, by omega⟩
    rw [List.append_assoc, F82v1, F82v1_B]
    simp only [chk1_eq, chk2_eq, chk3_eq, chk4_eq, chk5_eq, chk6_eq, chk7_eq, chk8_eq, F22_eq t.size (by omega) (bytesOf t ++ rest) (by simp only [List.length_append]; omega) (k + 1) (by omega), F29v2, F29v2_B, hx, Bool.false_eq_true, if_false]
    have hlen : (bytesOf t ++ rest).length = t.size + rest.length := by rw [List.length_append, hl]
    rw [if_pos (by decide), Int.tdiv_one, wrapI (by rw [hlen]; omega) (by rw [hlen]; omega), IntKind.wrap_u64, if_neg (by rw [hlen]; simp; omega), wrapI (by omega) (by omega)]
  have hlen : (bytesOf t ++ rest).length = t.size + rest.length := by rw [List.length_append, hl]
  have e1 : List.drop (0 : Int).toNat (List.take ((t.size : Nat) : Int).toNat (bytesOf t ++ rest)) = bytesOf t := by
    rw [Int.toNat_natCast, show (0 : Int).toNat = 0 from rfl, List.drop_zero, ← hl, List.take_left]
  have e2 : List.drop ((t.size : Nat) : Int).toNat (List.take (((bytesOf t ++ rest).length : Nat) : Int).toNat (bytesOf t ++ rest)) = rest := by
    rw [Int.toNat_natCast, Int.toNat_natCast, List.take_length, ← hl, List.drop_left]
  rw [F24, F24_B]
  simp only [chk1_eq, chk2_eq, chk3_eq, chk4_eq, chk5_eq, chk6_eq, chk7_eq, chk8_eq, h82, F26, F26_B, Bool.false_eq_true, if_false]
  rw [if_neg (by simp), if_pos (by rw [hlen]; simp; omega), if_pos (by rw [hlen]; simp; omega), e1, e2, str_bytes]
def tru (b : Bool) : List Int := if b = true then [1] else [0]
theorem F19_eq (b : Bool) (k : Nat) (hk : 13 ≤ k) (l : List Int) (hl : l.length ≤ 1000000) (κ : List Int → Option Res) : F19 k b l κ = κ (l ++ tru b) := by
  obtain ⟨k, rfl⟩ : ∃ k', k = k' + 1 := ⟨k - 1, by omega⟩
  have h1 := F13_nat 1 k l (by omega) (by omega) hl
  have h0 := F13_nat 0 k l (by omega) (by omega) hl
  have e1 : ((1 : Nat) : Int) = 1 := rfl
  have e0 : ((0 : Nat) : Int) = 0 := rfl
  rw [e1] at h1
  rw [e0] at h0
  rw [F19, F19_B]
  cases b
  · simp only [chk1_eq, chk2_eq, chk3_eq, chk4_eq, chk5_eq, chk6_eq, chk7_eq, chk8_eq, Bool.false_eq_true, if_false, h0]
    rfl
  · simp only [chk1_eq, chk2_eq, chk3_eq, chk4_eq, chk5_eq, chk6_eq, chk7_eq, chk8_eq, if_true, h1]
    rfl
theorem F20_eq (b : Bool) (k : Nat) (hk : 1 ≤ k) (κ : ByteArray → Option Res) : F20 k b κ = κ (strOf (tru b)) := by
  obtain ⟨k, rfl⟩ : ∃ k', k = k' + 1 := ⟨k - 1, by omega⟩
  cases b <;> kernel_rfl
theorem F25_eq (b : Bool) (rest : List Int) (hr : rest.length ≤ 1000000) (k : Nat) (hk : 13 ≤ k) (κ : Bool × List Int × Int → Option Res) : F25 k (tru b ++ rest) 0 κ = κ (b, (rest, 0)) := by
  obtain ⟨k, rfl⟩ : ∃ k', k = k' + 1 := ⟨k - 1, by omega⟩
  have h1 := F22_eq 1 (by omega) rest hr k (by omega)
  have h0 := F22_eq 0 (by omega) rest hr k (by omega)
  have e1 : enc 9 1 = [1] := rfl
  have e0 : enc 9 0 = [0] := rfl
  rw [e1] at h1
  rw [e0] at h0
  rw [F25, F25_B]
  cases b
  · simp only [chk1_eq, chk2_eq, chk3_eq, chk4_eq, chk5_eq, chk6_eq, chk7_eq, chk8_eq, tru, Bool.false_eq_true, if_false, h0]
    rfl
  · simp only [chk1_eq, chk2_eq, chk3_eq, chk4_eq, chk5_eq, chk6_eq, chk7_eq, chk8_eq, tru, if_true, h1]
    rfl
end Go.Proofs.Ytkfphlmbdppbfaa.CoT
