/- CodecNumbers as a function over lists and texts: it is true of all numbers of 64 bits and all texts. Condition: the numbers are of 64 bits. -/
import Derived.Test.YtkfphlmbdppbfaaCoNItem
namespace Go.Proofs.Ytkfphlmbdppbfaa.CoN
open Go Go.Proofs.Ytkfphlmbdppbfaa.Vm
set_option linter.unusedVariables false
set_option linter.unusedSimpArgs false
set_option maxRecDepth 100000
theorem lt_t {j n : Nat} (h : j < n) : decide ((j : Int) < (n : Int)) = true := by simpa using h
theorem lt_f (n : Nat) : decide ((n : Int) < (n : Int)) = false := by simp
theorem rng {j n : Nat} (h : j < n) : (true && (decide ((0 : Int) ≤ (j : Int)) && decide ((j : Int) < (n : Int)))) = true := by simp; omega
def u64s (l : List Int) : Prop := ∀ i, 0 ≤ l.getD i 0 ∧ l.getD i 0 < 18446744073709551616
def item (l : List Int) (t : ByteArray) (i : Nat) : List Int :=
  if i % 4 = 0 then enc 9 (l.getD i 0).toNat else if i % 4 = 1 then enc 9 (zig (IntKind.wrap .i64 (l.getD i 0))) else if i % 4 = 2 then enc 9 t.size ++ bytesOf t else tru ((bits .and .u64 (l.getD i 0) (1 : Int)) == (1 : Int))
def items (l : List Int) (t : ByteArray) : Nat → Nat → List Int
  | 0, _ => []
  | m + 1, i => item l t i ++ items l t m (i + 1)
theorem tru_len (b : Bool) : (tru b).length = 1 := by cases b <;> rfl
theorem item_len (l : List Int) (t : ByteArray) (ht : t.size ≤ 200) (i : Nat) : (item l t i).length ≤ 300 := by
  have h1 := enc_len 9 (l.getD i 0).toNat
  have h2 := enc_len 9 (zig (IntKind.wrap .i64 (l.getD i 0)))
  have h3 := enc_len 9 t.size
  have h4 := tru_len ((bits .and .u64 (l.getD i 0) (1 : Int)) == (1 : Int))
  have h5 := bytes_len t
  unfold item
  split
  · omega
  split
  · omega
  split
  · rw [List.length_append]; omega
  · omega
theorem items_len (l : List Int) (t : ByteArray) (ht : t.size ≤ 200) : ∀ m i, (items l t m i).length ≤ m * 300
  | 0, i => by simp [items]
  | m + 1, i => by
    have h1 := item_len l t ht i
    have h2 := items_len l t ht m (i + 1)
    unfold items
    rw [List.length_append]; omega
theorem wr_is (x : Int) : is64 (IntKind.wrap .i64 x) := by
  unfold is64; rw [IntKind.wrap_i64]; omega
theorem a3 (i : Nat) : bits .and .i64 (i : Int) (3 : Int) = ((i % 4 : Nat) : Int) := by rw [and3]; omega
theorem L3_0_eq (l : List Int) (hl : u64s l) (t : ByteArray) (ht : t.size ≤ 200) (N : Nat) (hN : N = min l.length 12) : ∀ (m i k : Nat) (b : List Int), i + m = N → b.length ≤ i * 300 → m + 20 ≤ k → ∀ κ K,
    L3_0 k κ l (strOf b) t (i : Int) b K = K (strOf (b ++ items l t m i), ((N : Int), b ++ items l t m i)) := by
  intro m
  induction m with
  | zero =>
    intro i k b hi hb hk κ K
    obtain ⟨k, rfl⟩ : ∃ k', k = k' + 1 := ⟨k - 1, by omega⟩
    have : i = N := by omega
    subst this
    rw [L3_0, L3_0_B]
    simp only [chk1_eq, chk2_eq, chk3_eq, chk4_eq, chk5_eq, chk6_eq, chk7_eq, chk8_eq, items, List.append_nil]
    by_cases h : i < l.length
    · rw [if_pos (lt_t h), if_neg (by simp; omega)]
    · rw [if_neg (by simp; omega), if_neg (by simp)]
  | succ m ih =>
    intro i k b hi hb hk κ K
    obtain ⟨k, rfl⟩ : ∃ k', k = k' + 1 := ⟨k - 1, by omega⟩
    have hil : i < l.length := by omega
    have hi12 : i < 12 := by omega
    have hln := item_len l t ht i
    have hsz : ∀ x : List Int, x.length ≤ 300 → decide ((strOf b).size + (strOf x).size ≤ 9223372036854775807) = true := fun x hx => decide_eq_true (by rw [str_size, str_size]; omega)
    have go : item l t i = item l t i → L3_0 k κ l (strOf b ++ strOf (item l t i)) t (IntKind.wrap .i64 ((i : Int) + 1)) (b ++ item l t i) K = K (strOf (b ++ items l t (m + 1) i), ((N : Int), b ++ items l t (m + 1) i)) := fun _ => by
      rw [str_app, wr1 (by omega), ih (i + 1) k (b ++ item l t i) (by omega) (by rw [List.length_append]; omega) (by omega) κ K, List.append_assoc]
      rfl
    obtain ⟨h0, h1⟩ := hl i
    have en : l.getD i 0 = (((l.getD i 0).toNat : Nat) : Int) := by omega
    have hn : (l.getD i 0).toNat < 18446744073709551616 := by omega
    rw [L3_0, L3_0_B]
    simp only [chk1_eq, chk2_eq, chk3_eq, chk4_eq, chk5_eq, chk6_eq, chk7_eq, chk8_eq, Int.toNat_natCast, a3]
    rw [if_pos (lt_t hil), if_pos (by simp; omega)]
    by_cases c0 : i % 4 = 0
    · have ei : item l t i = enc 9 (l.getD i 0).toNat := by unfold item; rw [if_pos c0]
      rw [if_pos (by rw [c0]; rfl), if_pos (rng hil), en, F13_nat _ k b hn (by omega) (by omega), if_pos (rng hil), F14_nat _ k hn (by omega), ← ei, if_pos (hsz _ hln)]
      exact go rfl
    by_cases c1 : i % 4 = 1
    · have ei : item l t i = enc 9 (zig (IntKind.wrap .i64 (l.getD i 0))) := by unfold item; rw [if_neg c0, if_pos c1]
      rw [if_neg (by rw [c1]; decide), if_pos (by rw [c1]; rfl), if_pos (rng hil), F15_eq (wr_is _) k (by omega) b (by omega), if_pos (rng hil), F16_eq (wr_is _) k (by omega), ← ei, if_pos (hsz _ hln)]
      exact go rfl
    by_cases c2 : i % 4 = 2
    · have ei : item l t i = enc 9 t.size ++ bytesOf t := by unfold item; rw [if_neg c0, if_neg c1, if_pos c2]
      rw [if_neg (by rw [c2]; decide), if_neg (by rw [c2]; decide), if_pos (by rw [c2]; rfl), F17_eq t (by omega) k (by omega) b (by omega), F18_eq t (by omega) k (by omega), ← ei, if_pos (hsz _ hln)]
      exact go rfl
    · have c3 : i % 4 = 3 := by omega
      have ei : item l t i = tru ((bits .and .u64 (l.getD i 0) (1 : Int)) == (1 : Int)) := by unfold item; rw [if_neg c0, if_neg c1, if_neg c2]
      rw [if_neg (by rw [c3]; decide), if_neg (by rw [c3]; decide), if_neg (by rw [c3]; decide), if_pos (rng hil), F19_eq _ k (by omega) b (by omega), if_pos (rng hil), F20_eq _ k (by omega), ← ei, if_pos (hsz _ hln)]
      exact go rfl
theorem L3_1_eq (l : List Int) (hl : u64s l) (t p1 : ByteArray) (ht : t.size ≤ 200) (p4 : List Int) (N : Nat) (hN : N = min l.length 12) : ∀ (m i k : Nat), i + m = N → m + 20 ≤ k → ∀ κ K,
    L3_1 k κ l p1 t (i : Int) p4 (items l t m i) 0 K = K ((N : Int), ([], 0)) := by
  intro m
  induction m with
  | zero =>
    intro i k hi hk κ K
    obtain ⟨k, rfl⟩ : ∃ k', k = k' + 1 := ⟨k - 1, by omega⟩
    have : i = N := by omega
    subst this
    rw [L3_1, L3_1_B]
    simp only [chk1_eq, chk2_eq, chk3_eq, chk4_eq, chk5_eq, chk6_eq, chk7_eq, chk8_eq, items]
    by_cases h : i < l.length
    · rw [if_pos (lt_t h), if_neg (by simp; omega)]
    · rw [if_neg (by simp; omega), if_neg (by simp)]
  | succ m ih =>
    intro i k hi hk κ K
    obtain ⟨k, rfl⟩ : ∃ k', k = k' + 1 + 1 := ⟨k - 2, by omega⟩
    have hil : i < l.length := by omega
    have hi12 : i < 12 := by omega
    have hr := items_len l t ht m (i + 1)
    obtain ⟨h0, h1⟩ := hl i
    have en : l.getD i 0 = (((l.getD i 0).toNat : Nat) : Int) := by omega
    have hn : (l.getD i 0).toNat < 18446744073709551616 := by omega
    have hs : items l t (m + 1) i = item l t i ++ items l t m (i + 1) := rfl
    have ih' := ih (i + 1) (k + 1) (by omega) (by omega) κ K
    rw [L3_1, L3_1_B]
    simp only [chk1_eq, chk2_eq, chk3_eq, chk4_eq, chk5_eq, chk6_eq, chk7_eq, chk8_eq, Int.toNat_natCast, a3, F26, F26_B, Bool.false_eq_true, if_false]
    rw [if_pos (lt_t hil), if_pos (by simp; omega), hs, wr1 (by omega)]
    by_cases c0 : i % 4 = 0
    · have ei : item l t i = enc 9 (l.getD i 0).toNat := by unfold item; rw [if_pos c0]
      rw [if_pos (by rw [c0]; rfl), ei, F22_eq _ hn _ (by omega) (k + 1) (by omega), if_pos (rng hil), if_neg (by rw [← en]; simp), if_neg (by simp)]
      exact ih'
    by_cases c1 : i % 4 = 1
    · have ei : item l t i = enc 9 (zig (IntKind.wrap .i64 (l.getD i 0))) := by unfold item; rw [if_neg c0, if_pos c1]
      rw [if_neg (by rw [c1]; decide), if_pos (by rw [c1]; rfl), ei, F23_eq (wr_is _) _ (by omega) (k + 1) (by omega), if_pos (rng hil), if_neg (by simp), if_neg (by simp)]
      exact ih'
    by_cases c2 : i % 4 = 2
    · have ei : item l t i = enc 9 t.size ++ bytesOf t := by unfold item; rw [if_neg c0, if_neg c1, if_pos c2]
      rw [if_neg (by rw [c2]; decide), if_neg (by rw [c2]; decide), if_pos (by rw [c2]; rfl), ei, F24_eq t (by omega) _ (by omega) (k + 1) (by omega), if_neg (by simp), if_neg (by simp)]
      exact ih'
    · have c3 : i % 4 = 3 := by omega
      have ei : item l t i = tru ((bits .and .u64 (l.getD i 0) (1 : Int)) == (1 : Int)) := by unfold item; rw [if_neg c0, if_neg c1, if_neg c2]
      rw [if_neg (by rw [c3]; decide), if_neg (by rw [c3]; decide), if_neg (by rw [c3]; decide), ei, F25_eq _ _ (by omega) (k + 1) (by omega), if_pos (rng hil), if_neg (by simp), if_neg (by simp)]
      exact ih'
def byte (l : List Int) : Prop := ∀ x ∈ l, 0 ≤ x ∧ x < 256
theorem enc_byte : ∀ f n, n < 128 ^ (f + 1) → byte (enc f n)
  | 0, n, h, x, hx => by simp [enc] at hx; simp at h; omega
  | f + 1, n, h, x, hx => by
    unfold enc at hx
    split at hx
    · simp at hx; omega
    · rcases List.mem_cons.1 hx with rfl | hx
      · omega
      · exact enc_byte f (n / 128) (by rw [Nat.pow_succ] at h; exact Nat.div_lt_of_lt_mul (by rw [Nat.mul_comm]; exact h)) x hx
theorem byte_app {a b : List Int} (ha : byte a) (hb : byte b) : byte (a ++ b) := fun x hx => (List.mem_append.1 hx).elim (ha x) (hb x)
theorem byte_str (s : ByteArray) : byte (bytesOf s) := fun x hx => by
  unfold bytesOf at hx
  obtain ⟨b, _, rfl⟩ := List.mem_map.1 hx
  have := b.toNat_lt
  omega
theorem item_byte (l : List Int) (hl : u64s l) (t : ByteArray) (ht : t.size ≤ 200) (i : Nat) : byte (item l t i) := by
  have b := b19
  obtain ⟨h0, h1⟩ := hl i
  have hz := zig_lt (wr_is (l.getD i 0))
  unfold item
  split
  · exact enc_byte 9 _ (by omega)
  split
  · exact enc_byte 9 _ (by omega)
  split
  · exact byte_app (enc_byte 9 _ (by omega)) (byte_str t)
  · unfold tru; split <;> (intro x hx; simp at hx; omega)
theorem items_byte (l : List Int) (hl : u64s l) (t : ByteArray) (ht : t.size ≤ 200) : ∀ m i, byte (items l t m i)
  | 0, i => fun x hx => by cases hx
  | m + 1, i => byte_app (item_byte l hl t ht i) (items_byte l hl t ht m (i + 1))
theorem bytes_str {l : List Int} (h : byte l) : bytesOf (strOf l) = l := by
  show List.map _ ((l.map fun n => UInt8.ofNat n.toNat).toArray).toList = l
  rw [List.toList_toArray, List.map_map]
  conv => rhs; rw [← List.map_id l]
  refine List.map_congr_left fun x hx => ?_
  obtain ⟨h0, h1⟩ := h x hx
  show (((UInt8.ofNat x.toNat).toNat : Nat) : Int) = x
  rw [UInt8.toNat_ofNat', Nat.mod_eq_of_lt (by omega)]
  omega
theorem F27_true (κ : Bool → Option Res) : F27 99 κ = κ true := by kernel_rfl
theorem F3_true (l : List Int) (hl : u64s l) (s : ByteArray) (κ : Bool → Option Res) : F3 100 l s κ = κ true := by
  have hm : imin (s.size : Int) (200 : Int) = ((min s.size 200 : Nat) : Int) := by
    unfold imin; split <;> omega
  obtain ⟨t, et⟩ : ∃ t, s.extract (0 : Int).toNat (min s.size 200) = t := ⟨_, rfl⟩
  have ht : t.size ≤ 200 := by rw [← et, ByteArray.size_extract]; omega
  have h0 := L3_0_eq l hl t ht (min l.length 12) rfl (min l.length 12) 0 99 [] (by omega) (by simp) (by omega)
  have hT : (items l t (min l.length 12) 0).length ≤ 1000000 := by have := items_len l t ht (min l.length 12) 0; omega
  have e0 : strOf [] = (⟨#[]⟩ : ByteArray) := rfl
  have z0 : ((0 : Nat) : Int) = 0 := rfl
  rw [e0, z0, List.nil_append] at h0
  have h1 := fun p1 p4 => L3_1_eq l hl t p1 ht p4 (min l.length 12) rfl (min l.length 12) 0 99 (by omega) (by omega)
  rw [z0] at h1
  rw [F3, F3_B]
  simp only [chk1_eq, chk2_eq, chk3_eq, chk4_eq, chk5_eq, chk6_eq, chk7_eq, chk8_eq, hm, Int.toNat_natCast, et, h0]
  rw [if_pos (by simp; omega), F21, F21_B]
  simp only [chk1_eq, chk2_eq, chk3_eq, chk4_eq, chk5_eq, chk6_eq, chk7_eq, chk8_eq, bytes_str (items_byte l hl t ht _ 0)]
  rw [if_pos (by simpa using hT)]
  simp only [h1, F27_true, if_true]
  rw [F28, F28_B]
  simp only [chk1_eq, chk2_eq, chk3_eq, chk4_eq, chk5_eq, chk6_eq, chk7_eq, chk8_eq, Bool.false_eq_true, if_false]
  rw [if_pos (by simpa using hT), if_pos (beq_self_eq_true _), F29v2, F29v2_B]
  rfl
end Go.Proofs.Ytkfphlmbdppbfaa.CoN
