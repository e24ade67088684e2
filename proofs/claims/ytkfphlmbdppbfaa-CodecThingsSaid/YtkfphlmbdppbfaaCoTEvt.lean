/- Events' bytes: what is put, what the document says, and what is read again. No condition. -/
import Derived.Test.YtkfphlmbdppbfaaCoTVal
namespace Go.Proofs.Ytkfphlmbdppbfaa.CoT
open Go Go.Proofs.Ytkfphlmbdppbfaa.Vm
set_option linter.unusedVariables false
set_option linter.unusedSimpArgs false
set_option maxRecDepth 100000
abbrev zV : T2 := ((0 : Int), ((0 : Int), ((⟨#[]⟩ : ByteArray), false)))
structure EOk (e : T13) : Prop where
  ty : e.1.size ≤ 100
  key : e.2.1.size ≤ 100
  time : is64 e.2.2.1
  seq : is64 e.2.2.2.1
  len : e.2.2.2.2.length ≤ 3
  vals : ∀ i, i < e.2.2.2.2.length → VOk (e.2.2.2.2.getD i zV)
/-- the bytes of so many values, from one on -/
def encVs (l : List T2) : Nat → Nat → List Int
  | 0, _ => []
  | m + 1, i => encV (l.getD i zV) ++ encVs l m (i + 1)
def encE (e : T13) : List Int := encT e.1 ++ (encT e.2.1 ++ (enc 9 (zig e.2.2.1) ++ (enc 9 (zig e.2.2.2.1) ++ (enc 9 e.2.2.2.2.length ++ encVs e.2.2.2.2 e.2.2.2.2.length 0))))
theorem encVs_len (l : List T2) (h : ∀ i, i < l.length → VOk (l.getD i zV)) : ∀ m i, i + m = l.length → 2 * m ≤ (encVs l m i).length ∧ (encVs l m i).length ≤ 100 * m
  | 0, i, _ => by simp [encVs]
  | m + 1, i, hi => by
    have h1 := encV_len (h i (by omega))
    have h2 := encVs_len l h m (i + 1) (by omega)
    unfold encVs
    rw [List.length_append]; omega
theorem encE_len {e : T13} (h : EOk e) : 5 ≤ (encE e).length ∧ (encE e).length ≤ 600 := by
  have h1 := encT_len e.1 (by have := h.ty; omega)
  have h2 := encT_len e.2.1 (by have := h.key; omega)
  have h3 := enc_len 9 (zig e.2.2.1)
  have h3' := enc_pos (zig e.2.2.1)
  have h4 := enc_len 9 (zig e.2.2.2.1)
  have h4' := enc_pos (zig e.2.2.2.1)
  have h5 := enc_len 9 e.2.2.2.2.length
  have h5' := enc_pos e.2.2.2.2.length
  have h6 := encVs_len e.2.2.2.2 h.vals e.2.2.2.2.length 0 (by omega)
  have := h.ty
  have := h.key
  have := h.len
  unfold encE
  simp only [List.length_append]
  omega
theorem L83_eq (l : List T2) (hl : l.length ≤ 3) (h : ∀ i, i < l.length → VOk (l.getD i zV)) : ∀ (m i k : Nat) (b : List Int), i + m = l.length → m + 16 ≤ k → b.length + 100 * m ≤ 50000 → ∀ κ K,
    L83_0 k κ l (l.length : Int) (i : Int) b K = K ((l.length : Int), b ++ encVs l m i) := by
  intro m
  induction m with
  | zero =>
    intro i k b hi hk hb κ K
    obtain ⟨k, rfl⟩ : ∃ k', k = k' + 1 := ⟨k - 1, by omega⟩
    have : i = l.length := by omega
    subst this
    rw [L83_0, L83_0_B]
    simp only [chk1_eq, chk2_eq, chk3_eq, chk4_eq, chk5_eq, chk6_eq, chk7_eq, chk8_eq, lt_f, Bool.false_eq_true, if_false, encVs, List.append_nil]
  | succ m ih =>
    intro i k b hi hk hb κ K
    obtain ⟨k, rfl⟩ : ∃ k', k = k' + 1 := ⟨k - 1, by omega⟩
    have hv := h i (by omega)
    have hln := encV_len hv
    rw [L83_0, L83_0_B]
    simp only [chk1_eq, chk2_eq, chk3_eq, chk4_eq, chk5_eq, chk6_eq, chk7_eq, chk8_eq, Int.toNat_natCast]
    rw [if_pos (lt_t (by omega)), if_pos (rng (by omega))]
    show F131 k (l.getD i zV) b _ = _
    rw [F131_eq hv k (by omega) b (by omega), wr1 (by omega), ih (i + 1) k (b ++ encV (l.getD i zV)) (by omega) (by omega) (by rw [List.length_append]; omega) κ K, List.append_assoc]
    rfl
theorem F83_eq {e : T13} (h : EOk e) (k : Nat) (hk : 25 ≤ k) (b : List Int) (hb : b.length ≤ 20000) (κ : List Int → Option Res) : F83 k e b κ = κ (b ++ encE e) := by
  obtain ⟨k, rfl⟩ : ∃ k', k = k' + 1 := ⟨k - 1, by omega⟩
  have t1 := encT_len e.1 (by have := h.ty; omega)
  have t2 := encT_len e.2.1 (by have := h.key; omega)
  have h3 := enc_len 9 (zig e.2.2.1)
  have h4 := enc_len 9 (zig e.2.2.2.1)
  have h5 := enc_len 9 e.2.2.2.2.length
  have q1 := h.ty
  have q2 := h.key
  have q3 := h.len
  rw [F83, F83_B]
  simp only [chk1_eq, chk2_eq, chk3_eq, chk4_eq, chk5_eq, chk6_eq, chk7_eq, chk8_eq]
  rw [F17_eq e.1 (by omega) k (by omega) b (by omega)]
  show F17 k e.2.1 (b ++ encT e.1) _ = _
  rw [F17_eq e.2.1 (by omega) k (by omega) (b ++ encT e.1) (by rw [List.length_append]; omega)]
  show F15 k e.2.2.1 ((b ++ encT e.1) ++ encT e.2.1) _ = _
  rw [F15_eq h.time k (by omega) _ (by simp only [List.length_append]; omega), F15_eq h.seq k (by omega) _ (by simp only [List.length_append]; omega), w64 (by omega), F13_nat _ k _ (by omega) (by omega) (by simp only [List.length_append]; omega)]
  have hL := L83_eq e.2.2.2.2 h.len h.vals e.2.2.2.2.length 0 k (((((b ++ encT e.1) ++ encT e.2.1) ++ enc 9 (zig e.2.2.1)) ++ enc 9 (zig e.2.2.2.1)) ++ enc 9 e.2.2.2.2.length) (by omega) (by omega) (by simp only [List.length_append]; omega)
  have hz : ((0 : Nat) : Int) = 0 := rfl
  rw [hz] at hL
  rw [hL]
  unfold encE
  simp only [List.append_assoc]
theorem L33_eq (l : List T2) (hl : l.length ≤ 3) (h : ∀ i, i < l.length → VOk (l.getD i zV)) (p2 p3 : ByteArray) (p4 p5 : Int) : ∀ (m i k : Nat) (b : List Int), i + m = l.length → m + 16 ≤ k → b.length + 100 * m ≤ 50000 → ∀ κ K,
    L33_0 k κ (strOf b) (i : Int) p2 p3 p4 p5 l K = K (strOf (b ++ encVs l m i), (l.length : Int)) := by
  intro m
  induction m with
  | zero =>
    intro i k b hi hk hb κ K
    obtain ⟨k, rfl⟩ : ∃ k', k = k' + 1 := ⟨k - 1, by omega⟩
    have : i = l.length := by omega
    subst this
    rw [L33_0, L33_0_B]
    simp only [chk1_eq, chk2_eq, chk3_eq, chk4_eq, chk5_eq, chk6_eq, chk7_eq, chk8_eq, lt_f, Bool.false_eq_true, if_false, encVs, List.append_nil]
  | succ m ih =>
    intro i k b hi hk hb κ K
    obtain ⟨k, rfl⟩ : ∃ k', k = k' + 1 := ⟨k - 1, by omega⟩
    have hv := h i (by omega)
    have hln := encV_len hv
    rw [L33_0, L33_0_B]
    simp only [chk1_eq, chk2_eq, chk3_eq, chk4_eq, chk5_eq, chk6_eq, chk7_eq, chk8_eq, Int.toNat_natCast]
    rw [if_pos (lt_t (by omega)), if_pos (rng (by omega))]
    show F85 k (l.getD i zV) _ = _
    rw [F85_eq hv k (by omega), if_pos (decide_eq_true (by rw [str_size, str_size]; omega)), str_app, wr1 (by omega), ih (i + 1) k (b ++ encV (l.getD i zV)) (by omega) (by omega) (by rw [List.length_append]; omega) κ K, List.append_assoc]
    rfl
theorem F33_eq {e : T13} (h : EOk e) (k : Nat) (hk : 25 ≤ k) (κ : ByteArray → Option Res) : F33 k e κ = κ (strOf (encE e)) := by
  obtain ⟨k, rfl⟩ : ∃ k', k = k' + 1 := ⟨k - 1, by omega⟩
  have t1 := encT_len e.1 (by have := h.ty; omega)
  have t2 := encT_len e.2.1 (by have := h.key; omega)
  have h3 := enc_len 9 (zig e.2.2.1)
  have h4 := enc_len 9 (zig e.2.2.2.1)
  have h5 := enc_len 9 e.2.2.2.2.length
  have q1 := h.ty
  have q2 := h.key
  have q3 := h.len
  have g : ∀ a b : List Int, a.length ≤ 10000 → b.length ≤ 10000 → decide ((strOf a).size + (strOf b).size ≤ 9223372036854775807) = true := fun a b ha hb => decide_eq_true (by rw [str_size, str_size]; omega)
  rw [F33, F33_B]
  simp only [chk1_eq, chk2_eq, chk3_eq, chk4_eq, chk5_eq, chk6_eq, chk7_eq, chk8_eq]
  have f1 : ∀ κ, F18 k e.1 κ = κ (strOf (encT e.1)) := F18_eq e.1 (by omega) k (by omega)
  have f2 : ∀ κ, F18 k e.2.1 κ = κ (strOf (encT e.2.1)) := F18_eq e.2.1 (by omega) k (by omega)
  have hL := L33_eq e.2.2.2.2 h.len h.vals e.1 e.2.1 e.2.2.1 e.2.2.2.1 e.2.2.2.2.length 0 k (((((encT e.1) ++ encT e.2.1) ++ enc 9 (zig e.2.2.1)) ++ enc 9 (zig e.2.2.2.1)) ++ enc 9 e.2.2.2.2.length) (by omega) (by omega) (by simp only [List.length_append]; omega)
  have hz : ((0 : Nat) : Int) = 0 := rfl
  rw [hz] at hL
  rw [f1, f2, if_pos (g _ _ (by omega) (by omega)), F16_eq h.time k (by omega), str_app, if_pos (g _ _ (by rw [List.length_append]; omega) (by omega)), F16_eq h.seq k (by omega), str_app,
    if_pos (g _ _ (by simp only [List.length_append]; omega) (by omega)), w64 (by omega), F14_nat _ k (by omega) (by omega), str_app, if_pos (g _ _ (by simp only [List.length_append]; omega) (by omega)), str_app, hL]
  unfold encE
  simp only [List.append_assoc]
theorem F82_eq (n c : Nat) (hc : 1 ≤ c) (hc5 : c ≤ 5) (hn : n ≤ 10000) (rest : List Int) (hr : rest.length ≤ 100000) (hnc : n * c ≤ rest.length) (k : Nat) (hk : 14 ≤ k) (κ : Int × List Int × Int → Option Res) :
    F82v1 k (c : Int) (enc 9 n ++ rest) 0 κ = κ ((n : Int), (rest, 0)) := by
  obtain ⟨k, rfl⟩ : ∃ k', k = k' + 1 + 1 := ⟨k - 2, by omega⟩
  have hx : imax (c : Int) (1 : Int) = (c : Int) := by unfold imax; split <;> omega
  have hd : Int.tdiv (rest.length : Int) (c : Int) = ((rest.length / c : Nat) : Int) := by
    rw [Int.tdiv_eq_ediv_of_nonneg (by omega)]; rfl
  have hle : n ≤ rest.length / c := (Nat.le_div_iff_mul_le (by omega)).2 hnc
  have hle2 : rest.length / c ≤ rest.length := Nat.div_le_self _ _
  rw [F82v1, F82v1_B]
  simp only [chk1_eq, chk2_eq, chk3_eq, chk4_eq, chk5_eq, chk6_eq, chk7_eq, chk8_eq, F22_eq n (by omega) rest (by omega) (k + 1) (by omega), F29v2, F29v2_B, hx, hd, Bool.false_eq_true, if_false]
  rw [if_pos (by simp; omega), wrapI (x := ((rest.length / c : Nat) : Int)) (by omega) (by omega), w64 (by omega), if_neg (by simp; omega), wrapI (by omega) (by omega)]
theorem F82_eq2 (n c : Nat) (hc : 1 ≤ c) (hc5 : c ≤ 5) (hn : n ≤ 10000) (rest : List Int) (hr : rest.length ≤ 100000) (hnc : n * c ≤ rest.length) (k : Nat) (hk : 14 ≤ k) (κ : Int × List Int × Int → Option Res) :
    F82 k (c : Int) (enc 9 n ++ rest) 0 κ = κ ((n : Int), (rest, 0)) := by
  obtain ⟨k, rfl⟩ : ∃ k', k = k' + 1 + 1 := ⟨k - 2, by omega⟩
  have hx : imax (c : Int) (1 : Int) = (c : Int) := by unfold imax; split <;> omega
  have hd : Int.tdiv (rest.length : Int) (c : Int) = ((rest.length / c : Nat) : Int) := by
    rw [Int.tdiv_eq_ediv_of_nonneg (by omega)]; rfl
  have hle : n ≤ rest.length / c := (Nat.le_div_iff_mul_le (by omega)).2 hnc
  have hle2 : rest.length / c ≤ rest.length := Nat.div_le_self _ _
  rw [F82, F82_B]
  simp only [chk1_eq, chk2_eq, chk3_eq, chk4_eq, chk5_eq, chk6_eq, chk7_eq, chk8_eq, F22_eq2 n (by omega) rest (by omega) (k + 1) (by omega), F29v2, F29v2_B, hx, hd, Bool.false_eq_true, if_false]
  rw [if_pos (by simp; omega), wrapI (x := ((rest.length / c : Nat) : Int)) (by omega) (by omega), w64 (by omega), if_neg (by simp; omega), wrapI (by omega) (by omega)]
theorem F26_eq (k : Nat) (hk : 1 ≤ k) (l : List Int) (κ : Int × List Int × Int → Option Res) : F26 k l 0 κ = κ (0, (l, 0)) := by
  obtain ⟨k, rfl⟩ : ∃ k', k = k' + 1 := ⟨k - 1, by omega⟩
  rw [F26, F26_B]
  simp only [chk1_eq, chk2_eq, chk3_eq, chk4_eq, chk5_eq, chk6_eq, chk7_eq, chk8_eq, Bool.false_eq_true, if_false]
theorem take_succ {l : List T2} {i : Nat} (h : i < l.length) : l.take i ++ [l.getD i zV] = l.take (i + 1) := by
  rw [List.take_add_one, List.getD_eq_getElem?_getD, List.getElem?_eq_getElem h]; rfl
theorem L84_eq (l : List T2) (hl : l.length ≤ 3) (h : ∀ i, i < l.length → VOk (l.getD i zV)) (rest : List Int) (hr : rest.length ≤ 20000) (p2 p3 : ByteArray) (p4 p5 : Int) (p6 : T4) (p7 p8 : ByteArray) (p9 p10 : Int) : ∀ (m i k : Nat), i + m = l.length → m + 21 ≤ k → ∀ κ K,
    L84_0 k κ (l.length : Int) (i : Int) p2 p3 p4 p5 p6 p7 p8 p9 p10 (l.take i) (encVs l m i ++ rest) 0 K = K ((l.length : Int), (l, (rest, 0))) := by
  intro m
  induction m with
  | zero =>
    intro i k hi hk κ K
    obtain ⟨k, rfl⟩ : ∃ k', k = k' + 1 := ⟨k - 1, by omega⟩
    have : i = l.length := by omega
    subst this
    rw [L84_0, L84_0_B]
    simp only [chk1_eq, chk2_eq, chk3_eq, chk4_eq, chk5_eq, chk6_eq, chk7_eq, chk8_eq, lt_f, Bool.false_eq_true, if_false, encVs, List.take_length]
    rfl
  | succ m ih =>
    intro i k hi hk κ K
    obtain ⟨k, rfl⟩ : ∃ k', k = k' + 1 := ⟨k - 1, by omega⟩
    have hv := h i (by omega)
    have hls := encVs_len l h m (i + 1) (by omega)
    rw [L84_0, L84_0_B]
    simp only [chk1_eq, chk2_eq, chk3_eq, chk4_eq, chk5_eq, chk6_eq, chk7_eq, chk8_eq]
    rw [if_pos (lt_t (by omega)), show encVs l (m + 1) i ++ rest = encV (l.getD i zV) ++ (encVs l m (i + 1) ++ rest) from List.append_assoc _ _ _, F132_eq hv _ (by rw [List.length_append]; omega) k (by omega)]
    rw [if_pos (decide_eq_true (by simp only [List.length_take, List.length_cons, List.length_nil]; omega)), wr1 (by omega), take_succ (by omega)]
    exact ih (i + 1) k (by omega) (by omega) κ K
theorem F84_eq {e : T13} (h : EOk e) (rest : List Int) (hr : rest.length ≤ 20000) (k : Nat) (hk : 30 ≤ k) (κ : T13 × List Int × Int → Option Res) : F84 k (encE e ++ rest) 0 κ = κ (e, (rest, 0)) := by
  obtain ⟨k, rfl⟩ : ∃ k', k = k' + 1 := ⟨k - 1, by omega⟩
  have t1 := encT_len e.1 (by have := h.ty; omega)
  have t2 := encT_len e.2.1 (by have := h.key; omega)
  have h3 := enc_len 9 (zig e.2.2.1)
  have h4 := enc_len 9 (zig e.2.2.2.1)
  have h5 := enc_len 9 e.2.2.2.2.length
  have h6 := encVs_len e.2.2.2.2 h.vals e.2.2.2.2.length 0 (by omega)
  have q1 := h.ty
  have q2 := h.key
  have q3 := h.len
  have hL := L84_eq e.2.2.2.2 h.len h.vals rest hr ⟨#[]⟩ ⟨#[]⟩ 0 0 [] e.1 e.2.1 e.2.2.1 e.2.2.2.1 e.2.2.2.2.length 0 k (by omega) (by omega)
  have hz : ((0 : Nat) : Int) = 0 := rfl
  rw [hz, List.take_zero] at hL
  have hc := F82_eq e.2.2.2.2.length 2 (by omega) (by omega) (by omega) (encVs e.2.2.2.2 e.2.2.2.2.length 0 ++ rest) (by rw [List.length_append]; omega) (by rw [List.length_append]; omega) k (by omega)
  have e2 : ((2 : Nat) : Int) = 2 := rfl
  rw [e2] at hc
  rw [F84, F84_B]
  simp only [chk1_eq, chk2_eq, chk3_eq, chk4_eq, chk5_eq, chk6_eq, chk7_eq, chk8_eq]
  unfold encE encT
  simp only [List.append_assoc]
  rw [← List.append_assoc (enc 9 e.1.size), F24_eq e.1 (by omega) _ (by simp only [List.length_append] at *; unfold encT at *; simp only [List.length_append] at *; omega) k (by omega)]
  simp only []
  rw [← List.append_assoc (enc 9 e.2.1.size), F24_eq e.2.1 (by omega) _ (by simp only [List.length_append]; omega) k (by omega)]
  simp only []
  rw [F23_eq h.time _ (by simp only [List.length_append]; omega) k (by omega)]
  simp only []
  rw [F23_eq h.seq _ (by simp only [List.length_append]; omega) k (by omega)]
  simp only []
  rw [hc, hL]
  simp only [F26_eq k (by omega)]
  rw [if_neg (by decide)]
end Go.Proofs.Ytkfphlmbdppbfaa.CoT
