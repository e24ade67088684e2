/- Values' and events' bytes: what is put, what the document says, and what is read again. No condition. -/
import Derived.Test.YtkfphlmbdppbfaaCoTItem
namespace Go.Proofs.Ytkfphlmbdppbfaa.CoT
open Go Go.Proofs.Ytkfphlmbdppbfaa.Vm
set_option linter.unusedVariables false
set_option linter.unusedSimpArgs false
set_option maxRecDepth 100000
theorem lt_t {j n : Nat} (h : j < n) : decide ((j : Int) < (n : Int)) = true := by simpa using h
theorem lt_f (n : Nat) : decide ((n : Int) < (n : Int)) = false := by simp
theorem rng {j n : Nat} (h : j < n) : (true && (decide ((0 : Int) ≤ (j : Int)) && decide ((j : Int) < (n : Int)))) = true := by simp; omega
inductive VOk : T2 → Prop where
  | int (n : Int) (h : is64 n) : VOk (1, (n, (⟨#[]⟩, false)))
  | str (s : ByteArray) (h : s.size ≤ 64) : VOk (2, (0, (s, false)))
  | tru (b : Bool) : VOk (3, (0, (⟨#[]⟩, b)))
def encT (s : ByteArray) : List Int := enc 9 s.size ++ bytesOf s
def encV (v : T2) : List Int := if v.1 = 1 then 1 :: enc 9 (zig v.2.1) else if v.1 = 2 then 2 :: encT v.2.2.1 else 3 :: tru v.2.2.2
theorem encT_len (s : ByteArray) (h : s.size ≤ 1000) : 1 ≤ (encT s).length ∧ (encT s).length ≤ s.size + 10 := by
  have h1 := enc_len 9 s.size
  have h2 := bytes_len s
  have h3 : 1 ≤ (enc 9 s.size).length := by unfold enc; split <;> simp
  unfold encT; rw [List.length_append]; omega
theorem enc_pos (n : Nat) : 1 ≤ (enc 9 n).length := by unfold enc; split <;> simp
theorem encV_len {v : T2} (h : VOk v) : 2 ≤ (encV v).length ∧ (encV v).length ≤ 100 := by
  cases h with
  | int n h => have := enc_len 9 (zig n); have := enc_pos (zig n); simp [encV]; omega
  | str s h => have := encT_len s (by omega); simp [encV]; omega
  | tru b => cases b <;> simp [encV, tru]
theorem F131_eq {v : T2} (h : VOk v) (k : Nat) (hk : 15 ≤ k) (b : List Int) (hb : b.length ≤ 50000) (κ : List Int → Option Res) : F131 k v b κ = κ (b ++ encV v) := by
  obtain ⟨k, rfl⟩ : ∃ k', k = k' + 1 := ⟨k - 1, by omega⟩
  have w : ∀ n : Nat, n < 128 → F13 k (IntKind.wrap .u64 (n : Int)) b = fun κ => κ (b ++ enc 9 n) := fun n hn => by
    funext κ; rw [w64 (by omega), F13_nat n k b (by omega) (by omega) (by omega)]
  rw [F131, F131_B]
  cases h with
  | int n h =>
    have w1 := w 1 (by omega)
    simp only [chk1_eq, chk2_eq, chk3_eq, chk4_eq, chk5_eq, chk6_eq, chk7_eq, chk8_eq]
    rw [show IntKind.wrap .u64 (1 : Int) = IntKind.wrap .u64 ((1 : Nat) : Int) from rfl, w1]
    show (if ((1 : Int) == 1) = true then _ else _) = _
    rw [if_pos (by rfl), F15_eq h k (by omega) _ (by simp [enc]; omega)]
    show κ ((b ++ [1]) ++ enc 9 (zig n)) = κ (b ++ (1 :: enc 9 (zig n)))
    rw [List.append_assoc]; rfl
  | str s h =>
    have w1 := w 2 (by omega)
    simp only [chk1_eq, chk2_eq, chk3_eq, chk4_eq, chk5_eq, chk6_eq, chk7_eq, chk8_eq]
    rw [show IntKind.wrap .u64 (2 : Int) = IntKind.wrap .u64 ((2 : Nat) : Int) from rfl, w1]
    show (if ((2 : Int) == 1) = true then _ else _) = _
    rw [if_neg (by decide), if_pos (by rfl), F17_eq s (by omega) k (by omega) _ (by simp [enc]; omega)]
    show κ ((b ++ [2]) ++ encT s) = κ (b ++ (2 :: encT s))
    rw [List.append_assoc]; rfl
  | tru c =>
    have w1 := w 3 (by omega)
    simp only [chk1_eq, chk2_eq, chk3_eq, chk4_eq, chk5_eq, chk6_eq, chk7_eq, chk8_eq]
    rw [show IntKind.wrap .u64 (3 : Int) = IntKind.wrap .u64 ((3 : Nat) : Int) from rfl, w1]
    show (if ((3 : Int) == 1) = true then _ else _) = _
    rw [if_neg (by decide), if_neg (by decide), if_pos (by rfl), F19_eq c k (by omega) _ (by simp [enc]; omega)]
    show κ ((b ++ [3]) ++ tru c) = κ (b ++ (3 :: tru c))
    rw [List.append_assoc]; rfl
theorem F85_eq {v : T2} (h : VOk v) (k : Nat) (hk : 15 ≤ k) (κ : ByteArray → Option Res) : F85 k v κ = κ (strOf (encV v)) := by
  obtain ⟨k, rfl⟩ : ∃ k', k = k' + 1 := ⟨k - 1, by omega⟩
  rw [F85, F85_B]
  have e : ∀ (c : UInt8) (l : List Int), l.length ≤ 1000 → decide ((⟨#[c]⟩ : ByteArray).size + (strOf l).size ≤ 9223372036854775807) = true := fun c l hl => decide_eq_true (by rw [str_size]; show 1 + _ ≤ _; omega)
  cases h with
  | int n h =>
    have := enc_len 9 (zig n)
    simp only [chk1_eq, chk2_eq, chk3_eq, chk4_eq, chk5_eq, chk6_eq, chk7_eq, chk8_eq, F16_eq h k (by omega)]
    rw [if_pos (by rfl), if_pos (e 1 _ (by omega)), show (⟨#[1]⟩ : ByteArray) = strOf [1] from rfl, str_app]
    rfl
  | str s h =>
    have := encT_len s (by omega)
    simp only [chk1_eq, chk2_eq, chk3_eq, chk4_eq, chk5_eq, chk6_eq, chk7_eq, chk8_eq, F18_eq s (show s.size ≤ 1000 by omega) k (by omega)]
    rw [if_neg (by decide), if_pos (by rfl), if_pos (e 2 (enc 9 s.size ++ bytesOf s) (show (encT s).length ≤ 1000 by omega)), show (⟨#[2]⟩ : ByteArray) = strOf [2] from rfl, str_app]
    rfl
  | tru b =>
    have : (tru b).length = 1 := by cases b <;> rfl
    simp only [chk1_eq, chk2_eq, chk3_eq, chk4_eq, chk5_eq, chk6_eq, chk7_eq, chk8_eq, F20_eq b k (by omega)]
    rw [if_neg (by decide), if_neg (by decide), if_pos (by rfl), if_pos (e 3 _ (by omega)), show (⟨#[3]⟩ : ByteArray) = strOf [3] from rfl, str_app]
    rfl
theorem beqB (s : ByteArray) : (s == s) = true := by
  cases s with
  | mk d => show (d == d) = true; exact beq_self_eq_true d
theorem F166_eq {v : T2} (h : VOk v) (k : Nat) (hk : 3 ≤ k) (κ : Bool → Option Res) : F166 k v κ = κ true := by
  obtain ⟨k, rfl⟩ : ∃ k', k = k' + 1 + 1 := ⟨k - 2, by omega⟩
  rw [F166, F166_B]
  cases h with
  | int n h =>
    simp only [chk1_eq, chk2_eq, chk3_eq, chk4_eq, chk5_eq, chk6_eq, chk7_eq, chk8_eq, F182, F182_B, beq_self_eq_true, beqB, Bool.and_self, if_true]
  | str s h =>
    simp only [chk1_eq, chk2_eq, chk3_eq, chk4_eq, chk5_eq, chk6_eq, chk7_eq, chk8_eq, F183, F183_B, beq_self_eq_true, beqB, Bool.and_self, if_true]
    rw [if_neg (by decide), decide_eq_true (show (s.size : Int) ≤ 64 by omega)]
  | tru b =>
    simp only [chk1_eq, chk2_eq, chk3_eq, chk4_eq, chk5_eq, chk6_eq, chk7_eq, chk8_eq, F184, F184_B, beq_self_eq_true, beqB, Bool.and_self, if_true]
    rw [if_neg (by decide), if_neg (by decide)]
theorem F132_eq {v : T2} (h : VOk v) (rest : List Int) (hr : rest.length ≤ 50000) (k : Nat) (hk : 20 ≤ k) (κ : T2 × List Int × Int → Option Res) : F132 k (encV v ++ rest) 0 κ = κ (v, (rest, 0)) := by
  obtain ⟨k, rfl⟩ : ∃ k', k = k' + 1 := ⟨k - 1, by omega⟩
  have hm := F166_eq h k (by omega)
  have h26 : ∀ (l : List Int) κ, F26 k l 0 κ = κ (0, (l, 0)) := fun l κ => by
    obtain ⟨k, rfl⟩ : ∃ k', k = k' + 1 := ⟨k - 1, by omega⟩
    rw [F26, F26_B]
    simp only [chk1_eq, chk2_eq, chk3_eq, chk4_eq, chk5_eq, chk6_eq, chk7_eq, chk8_eq, Bool.false_eq_true, if_false]
  have hx : ∀ n : Nat, n ≤ 9 → IntKind.wrap .i64 (imin (n : Int) (9 : Int)) = (n : Int) := fun n hn => by
    have : imin (n : Int) (9 : Int) = (n : Int) := by unfold imin; split <;> omega
    rw [this, wrapI (by omega) (by omega)]
  have key : ∀ (n : Nat) (tl : List Int), n < 128 → tl.length ≤ 60000 → ∀ κ, F22v1 k ((n : Int) :: tl) 0 κ = κ ((n : Int), (tl, 0)) := fun n tl hn hl κ => by
    have h := F22_eq n (by omega) tl (by omega) k (by omega) κ
    have e : enc 9 n = [(n : Int)] := by unfold enc; rw [if_pos hn]
    rw [e] at h; exact h
  rw [F132, F132_B]
  cases h with
  | int n h =>
    have hl := enc_len 9 (zig n)
    have k1 := key 1 (enc 9 (zig n) ++ rest) (by omega) (by rw [List.length_append]; omega)
    have x1 := hx 1 (by omega)
    have e1 : ((1 : Nat) : Int) = 1 := rfl
    rw [e1] at k1 x1
    simp only [chk1_eq, chk2_eq, chk3_eq, chk4_eq, chk5_eq, chk6_eq, chk7_eq, chk8_eq]
    show F22v1 k ((1 : Int) :: (enc 9 (zig n) ++ rest)) 0 _ = _
    rw [k1]
    simp only [x1]
    rw [if_pos (by rfl), F23_eq h rest (by omega) k (by omega)]
    simp only [h26, hm]
    rw [if_neg (by decide), if_neg (by decide)]
  | str s h =>
    have hl := encT_len s (by omega)
    have k1 := key 2 (encT s ++ rest) (by omega) (by rw [List.length_append]; omega)
    have x1 := hx 2 (by omega)
    have e1 : ((2 : Nat) : Int) = 2 := rfl
    rw [e1] at k1 x1
    simp only [chk1_eq, chk2_eq, chk3_eq, chk4_eq, chk5_eq, chk6_eq, chk7_eq, chk8_eq]
    show F22v1 k ((2 : Int) :: (encT s ++ rest)) 0 _ = _
    rw [k1]
    simp only [x1]
    rw [if_neg (by decide), if_pos (by rfl)]
    show F24 k ((enc 9 s.size ++ bytesOf s) ++ rest) 0 _ = _
    rw [F24_eq s (by omega) rest (by omega) k (by omega)]
    simp only [h26, hm]
    rw [if_neg (by decide), if_neg (by decide)]
  | tru b =>
    have hl : (tru b).length = 1 := by cases b <;> rfl
    have k1 := key 3 (tru b ++ rest) (by omega) (by rw [List.length_append]; omega)
    have x1 := hx 3 (by omega)
    have e1 : ((3 : Nat) : Int) = 3 := rfl
    rw [e1] at k1 x1
    simp only [chk1_eq, chk2_eq, chk3_eq, chk4_eq, chk5_eq, chk6_eq, chk7_eq, chk8_eq]
    show F22v1 k ((3 : Int) :: (tru b ++ rest)) 0 _ = _
    rw [k1]
    simp only [x1]
    rw [if_neg (by decide), if_neg (by decide), if_pos (by rfl), F25_eq b rest (by omega) k (by omega)]
    simp only [h26, hm]
    rw [if_neg (by decide), if_neg (by decide)]
end Go.Proofs.Ytkfphlmbdppbfaa.CoT
