/- What is told: its bytes, and read again. No condition. -/
import Derived.Test.YtkfphlmbdppbfaaCoTList
namespace Go.Proofs.Ytkfphlmbdppbfaa.CoT
open Go Go.Proofs.Ytkfphlmbdppbfaa.Vm
set_option linter.unusedVariables false
set_option linter.unusedSimpArgs false
set_option maxRecDepth 100000
abbrev Pr := Int × Int
abbrev zP : Int × Int := ((0 : Int), (0 : Int))
def PsOk (l : List (Int × Int)) : Prop := l.length ≤ 5 ∧ ∀ i, i < l.length → is64 (l.getD i zP).1 ∧ is64 (l.getD i zP).2
def encP (x : Int × Int) : List Int := enc 9 (zig x.1) ++ enc 9 (zig x.2)
def encPs (l : List (Int × Int)) : Nat → Nat → List Int
  | 0, _ => []
  | m + 1, i => encP (l.getD i zP) ++ encPs l m (i + 1)
theorem encP_len (x : Int × Int) : 2 ≤ (encP x).length ∧ (encP x).length ≤ 20 := by
  have h1 := enc_len 9 (zig x.1)
  have h2 := enc_len 9 (zig x.2)
  have h3 := enc_pos (zig x.1)
  have h4 := enc_pos (zig x.2)
  unfold encP; rw [List.length_append]; omega
theorem encPs_len (l : List (Int × Int)) : ∀ m i, 2 * m ≤ (encPs l m i).length ∧ (encPs l m i).length ≤ 20 * m
  | 0, i => by simp [encPs]
  | m + 1, i => by
    have h1 := encP_len (l.getD i zP)
    have h2 := encPs_len l m (i + 1)
    unfold encPs; rw [List.length_append]; omega
theorem L86_eq (l : List (Int × Int)) (h : PsOk l) : ∀ (m i k : Nat) (b : List Int), i + m = l.length → m + 14 ≤ k → b.length + 20 * m ≤ 50000 → ∀ κ K,
    L86_0 k κ l (l.length : Int) (i : Int) b K = K ((l.length : Int), b ++ encPs l m i) := by
  intro m
  induction m with
  | zero =>
    intro i k b hi hk hb κ K
    obtain ⟨k, rfl⟩ : ∃ k', k = k' + 1 := ⟨k - 1, by omega⟩
    have : i = l.length := by omega
    subst this
    rw [L86_0, L86_0_B]
    simp only [chk1_eq, chk2_eq, chk3_eq, chk4_eq, chk5_eq, chk6_eq, chk7_eq, chk8_eq, lt_f, Bool.false_eq_true, if_false, encPs, List.append_nil]
  | succ m ih =>
    intro i k b hi hk hb κ K
    obtain ⟨k, rfl⟩ : ∃ k', k = k' + 1 := ⟨k - 1, by omega⟩
    have hv := h.2 i (by omega)
    have h5 := h.1
    have hln := encP_len (l.getD i zP)
    have h1 := enc_len 9 (zig (l.getD i zP).1)
    rw [L86_0, L86_0_B]
    simp only [chk1_eq, chk2_eq, chk3_eq, chk4_eq, chk5_eq, chk6_eq, chk7_eq, chk8_eq, Int.toNat_natCast]
    rw [if_pos (lt_t (by omega)), if_pos (rng (by omega)), F15_eq hv.1 k (by omega) b (by omega), F15_eq hv.2 k (by omega) _ (by rw [List.length_append]; omega), wr1 (by omega), List.append_assoc]
    have := ih (i + 1) k (b ++ encP (l.getD i zP)) (by omega) (by omega) (by rw [List.length_append]; omega) κ K
    refine this.trans ?_
    rw [List.append_assoc]; rfl
def encPl (l : List (Int × Int)) : List Int := enc 9 l.length ++ encPs l l.length 0
theorem encPl_len (l : List (Int × Int)) (h : PsOk l) : (encPl l).length ≤ 200 := by
  have h1 := enc_len 9 l.length
  have h2 := encPs_len l l.length 0
  have h3 := h.1
  unfold encPl; rw [List.length_append]; omega
theorem F86_eq (l : List (Int × Int)) (h : PsOk l) (k : Nat) (hk : 30 ≤ k) (b : List Int) (hb : b.length ≤ 10000) (κ : List Int → Option Res) : F86 k l b κ = κ (b ++ encPl l) := by
  obtain ⟨k, rfl⟩ : ∃ k', k = k' + 1 := ⟨k - 1, by omega⟩
  have h5 := h.1
  have h1 := enc_len 9 l.length
  have hL := L86_eq l h l.length 0 k (b ++ enc 9 l.length) (by omega) (by omega) (by rw [List.length_append]; omega)
  have hz : ((0 : Nat) : Int) = 0 := rfl
  rw [hz] at hL
  rw [F86, F86_B]
  simp only [chk1_eq, chk2_eq, chk3_eq, chk4_eq, chk5_eq, chk6_eq, chk7_eq, chk8_eq]
  rw [w64 (by omega), F13_nat _ k b (by omega) (by omega) (by omega), hL]
  unfold encPl
  rw [List.append_assoc]
theorem L89_eq (l : List (Int × Int)) (h : PsOk l) : ∀ (m i k : Nat) (b : List Int), i + m = l.length → m + 14 ≤ k → b.length + 20 * m ≤ 50000 → ∀ κ K,
    L89_0 k κ l (strOf b) (i : Int) K = K (strOf (b ++ encPs l m i), (l.length : Int)) := by
  intro m
  induction m with
  | zero =>
    intro i k b hi hk hb κ K
    obtain ⟨k, rfl⟩ : ∃ k', k = k' + 1 := ⟨k - 1, by omega⟩
    have : i = l.length := by omega
    subst this
    rw [L89_0, L89_0_B]
    simp only [chk1_eq, chk2_eq, chk3_eq, chk4_eq, chk5_eq, chk6_eq, chk7_eq, chk8_eq, lt_f, Bool.false_eq_true, if_false, encPs, List.append_nil]
  | succ m ih =>
    intro i k b hi hk hb κ K
    obtain ⟨k, rfl⟩ : ∃ k', k = k' + 1 := ⟨k - 1, by omega⟩
    have hv := h.2 i (by omega)
    have h5 := h.1
    have hln := encP_len (l.getD i zP)
    have h1 := enc_len 9 (zig (l.getD i zP).1)
    have h2 := enc_len 9 (zig (l.getD i zP).2)
    rw [L89_0, L89_0_B]
    simp only [chk1_eq, chk2_eq, chk3_eq, chk4_eq, chk5_eq, chk6_eq, chk7_eq, chk8_eq, Int.toNat_natCast]
    rw [if_pos (lt_t (by omega)), if_pos (rng (by omega)), F16_eq hv.1 k (by omega), if_pos (rng (by omega)), F16_eq hv.2 k (by omega), if_pos (decide_eq_true (by rw [str_size, str_size]; omega)), str_app,
      if_pos (decide_eq_true (by rw [str_size, str_size, List.length_append]; omega)), str_app, wr1 (by omega)]
    have := ih (i + 1) k (b ++ encP (l.getD i zP)) (by omega) (by omega) (by rw [List.length_append]; omega) κ K
    refine this.trans ?_
    rw [List.append_assoc]; rfl
theorem F89_eq (l : List (Int × Int)) (h : PsOk l) (k : Nat) (hk : 30 ≤ k) (κ : ByteArray → Option Res) : F89 k l κ = κ (strOf (encPl l)) := by
  obtain ⟨k, rfl⟩ : ∃ k', k = k' + 1 := ⟨k - 1, by omega⟩
  have h5 := h.1
  have h1 := enc_len 9 l.length
  have hL := L89_eq l h l.length 0 k (enc 9 l.length) (by omega) (by omega) (by omega)
  have hz : ((0 : Nat) : Int) = 0 := rfl
  rw [hz] at hL
  rw [F89, F89_B]
  simp only [chk1_eq, chk2_eq, chk3_eq, chk4_eq, chk5_eq, chk6_eq, chk7_eq, chk8_eq]
  rw [w64 (by omega), F14_nat _ k (by omega) (by omega), hL]
  rfl
theorem take_succP {l : List (Int × Int)} {i : Nat} (h : i < l.length) : l.take i ++ [l.getD i zP] = l.take (i + 1) := by
  rw [List.take_add_one, List.getD_eq_getElem?_getD, List.getElem?_eq_getElem h]; rfl
theorem L87_eq (l : List (Int × Int)) (h : PsOk l) (rest : List Int) (hr : rest.length ≤ 20000) : ∀ (m i k : Nat), i + m = l.length → m + 16 ≤ k → ∀ κ K,
    L87_0 k κ (l.take i) (l.length : Int) (i : Int) (encPs l m i ++ rest) 0 K = K (l, ((l.length : Int), (rest, 0))) := by
  intro m
  induction m with
  | zero =>
    intro i k hi hk κ K
    obtain ⟨k, rfl⟩ : ∃ k', k = k' + 1 := ⟨k - 1, by omega⟩
    have : i = l.length := by omega
    subst this
    rw [L87_0, L87_0_B]
    simp only [chk1_eq, chk2_eq, chk3_eq, chk4_eq, chk5_eq, chk6_eq, chk7_eq, chk8_eq, lt_f, Bool.false_eq_true, if_false, encPs, List.take_length]
    rfl
  | succ m ih =>
    intro i k hi hk κ K
    obtain ⟨k, rfl⟩ : ∃ k', k = k' + 1 := ⟨k - 1, by omega⟩
    have hv := h.2 i (by omega)
    have h5 := h.1
    have hls := encPs_len l m (i + 1)
    have h1 := enc_len 9 (zig (l.getD i zP).1)
    have h2 := enc_len 9 (zig (l.getD i zP).2)
    rw [L87_0, L87_0_B]
    simp only [chk1_eq, chk2_eq, chk3_eq, chk4_eq, chk5_eq, chk6_eq, chk7_eq, chk8_eq]
    rw [if_pos (lt_t (by omega)), show encPs l (m + 1) i ++ rest = enc 9 (zig (l.getD i zP).1) ++ (enc 9 (zig (l.getD i zP).2) ++ (encPs l m (i + 1) ++ rest)) by
      show ((enc 9 (zig (l.getD i zP).1) ++ enc 9 (zig (l.getD i zP).2)) ++ encPs l m (i + 1)) ++ rest = _
      simp only [List.append_assoc], F23_eq hv.1 _ (by simp only [List.length_append]; omega) k (by omega)]
    simp only []
    rw [F23_eq hv.2 _ (by simp only [List.length_append]; omega) k (by omega)]
    simp only []
    rw [if_pos (decide_eq_true (by simp only [List.length_take, List.length_cons, List.length_nil]; omega)), wr1 (by omega)]
    have := ih (i + 1) k (by omega) (by omega) κ K
    rw [← take_succP (by omega)] at this
    exact this
theorem F87_eq (l : List (Int × Int)) (h : PsOk l) (rest : List Int) (hr : rest.length ≤ 20000) (k : Nat) (hk : 30 ≤ k) (κ : List (Int × Int) × List Int × Int → Option Res) : F87 k (encPl l ++ rest) 0 κ = κ (l, (rest, 0)) := by
  obtain ⟨k, rfl⟩ : ∃ k', k = k' + 1 := ⟨k - 1, by omega⟩
  have h5 := h.1
  have h6 := encPs_len l l.length 0
  have hc := F82_eq l.length 2 (by omega) (by omega) (by omega) (encPs l l.length 0 ++ rest) (by rw [List.length_append]; omega) (by rw [List.length_append]; omega) k (by omega)
  have hL := L87_eq l h rest hr l.length 0 k (by omega) (by omega)
  have hz : ((0 : Nat) : Int) = 0 := rfl
  have e2 : ((2 : Nat) : Int) = 2 := rfl
  rw [e2] at hc
  rw [hz, List.take_zero] at hL
  rw [F87, F87_B]
  simp only [chk1_eq, chk2_eq, chk3_eq, chk4_eq, chk5_eq, chk6_eq, chk7_eq, chk8_eq]
  unfold encPl
  rw [List.append_assoc, hc, hL]
  simp only [F26_eq k (by omega)]
  rw [if_neg (by decide)]
structure OOk (o : T11) : Prop where
  kind : 0 ≤ o.1 ∧ o.1 < 65536
  query : o.2.1.size ≤ 20
  place : is64 o.2.2.1
  key : o.2.2.2.1.size ≤ 20
  time : is64 o.2.2.2.2.1
  seq : is64 o.2.2.2.2.2.1
  pairs : PsOk o.2.2.2.2.2.2
def encO (o : T11) : List Int := enc 9 o.1.toNat ++ (encT o.2.1 ++ (enc 9 (zig o.2.2.1) ++ (encT o.2.2.2.1 ++ (enc 9 (zig o.2.2.2.2.1) ++ (enc 9 (zig o.2.2.2.2.2.1) ++ encPl o.2.2.2.2.2.2)))))
theorem kindN {o : T11} (h : OOk o) : o.1 = ((o.1.toNat : Nat) : Int) ∧ o.1.toNat < 65536 := by have := h.kind; omega
theorem F34_eq {o : T11} (h : OOk o) (k : Nat) (hk : 40 ≤ k) (κ : List Int → Option Res) : F34 k o [] κ = κ (encO o) := by
  obtain ⟨k, rfl⟩ : ∃ k', k = k' + 1 := ⟨k - 1, by omega⟩
  obtain ⟨en, hn⟩ := kindN h
  have t1 := encT_len o.2.1 (by have := h.query; omega)
  have t2 := encT_len o.2.2.2.1 (by have := h.key; omega)
  have h0 := enc_len 9 o.1.toNat
  have h3 := enc_len 9 (zig o.2.2.1)
  have h4 := enc_len 9 (zig o.2.2.2.2.1)
  have h5 := enc_len 9 (zig o.2.2.2.2.2.1)
  have q1 := h.query
  have q2 := h.key
  have hw : IntKind.wrap .u64 o.1 = ((o.1.toNat : Nat) : Int) := by rw [IntKind.wrap_u64]; omega
  rw [F34, F34_B]
  simp only [chk1_eq, chk2_eq, chk3_eq, chk4_eq, chk5_eq, chk6_eq, chk7_eq, chk8_eq]
  rw [hw, F13_nat _ k [] (by omega) (by omega) (by simp), List.nil_append, F17_eq o.2.1 (by omega) k (by omega) _ (by omega)]
  show F15 k o.2.2.1 (enc 9 o.1.toNat ++ encT o.2.1) _ = _
  rw [F15_eq h.place k (by omega) _ (by simp only [List.length_append]; omega), F17_eq o.2.2.2.1 (by omega) k (by omega) _ (by simp only [List.length_append]; omega)]
  show F15 k o.2.2.2.2.1 (((enc 9 o.1.toNat ++ encT o.2.1) ++ enc 9 (zig o.2.2.1)) ++ encT o.2.2.2.1) _ = _
  rw [F15_eq h.time k (by omega) _ (by simp only [List.length_append]; omega), F15_eq h.seq k (by omega) _ (by simp only [List.length_append]; omega), F86_eq _ h.pairs k (by omega) _ (by simp only [List.length_append]; omega)]
  unfold encO
  simp only [List.append_assoc]
theorem F37_eq {o : T11} (h : OOk o) (k : Nat) (hk : 40 ≤ k) (κ : ByteArray → Option Res) : F37 k o κ = κ (strOf (encO o)) := by
  obtain ⟨k, rfl⟩ : ∃ k', k = k' + 1 := ⟨k - 1, by omega⟩
  obtain ⟨en, hn⟩ := kindN h
  have t1 := encT_len o.2.1 (by have := h.query; omega)
  have t2 := encT_len o.2.2.2.1 (by have := h.key; omega)
  have h0 := enc_len 9 o.1.toNat
  have h3 := enc_len 9 (zig o.2.2.1)
  have h4 := enc_len 9 (zig o.2.2.2.2.1)
  have h5 := enc_len 9 (zig o.2.2.2.2.2.1)
  have h6 := encPl_len _ h.pairs
  have q1 := h.query
  have q2 := h.key
  have hw : IntKind.wrap .u64 o.1 = ((o.1.toNat : Nat) : Int) := by rw [IntKind.wrap_u64]; omega
  have g : ∀ a b : List Int, a.length ≤ 10000 → b.length ≤ 10000 → decide ((strOf a).size + (strOf b).size ≤ 9223372036854775807) = true := fun a b ha hb => decide_eq_true (by rw [str_size, str_size]; omega)
  have f1 : ∀ κ, F18 k o.2.1 κ = κ (strOf (encT o.2.1)) := F18_eq o.2.1 (by omega) k (by omega)
  have f2 : ∀ κ, F18 k o.2.2.2.1 κ = κ (strOf (encT o.2.2.2.1)) := F18_eq o.2.2.2.1 (by omega) k (by omega)
  rw [F37, F37_B]
  simp only [chk1_eq, chk2_eq, chk3_eq, chk4_eq, chk5_eq, chk6_eq, chk7_eq, chk8_eq]
  rw [hw, F14_nat _ k (by omega) (by omega), f1, if_pos (g _ _ (by omega) (by omega)), F16_eq h.place k (by omega), str_app, if_pos (g _ _ (by simp only [List.length_append]; omega) (by omega)), f2, str_app,
    if_pos (g _ _ (by simp only [List.length_append]; omega) (by omega)), F16_eq h.time k (by omega), str_app, if_pos (g _ _ (by simp only [List.length_append]; omega) (by omega)), F16_eq h.seq k (by omega), str_app,
    if_pos (g _ _ (by simp only [List.length_append]; omega) (by omega)), F89_eq _ h.pairs k (by omega), str_app, if_pos (g _ _ (by simp only [List.length_append]; omega) (by omega)), str_app]
  unfold encO
  simp only [List.append_assoc]
theorem F35_eq {o : T11} (h : OOk o) (k : Nat) (hk : 40 ≤ k) (κ : T11 × List Int × Int → Option Res) : F35 k (encO o) 0 κ = κ (o, ([], 0)) := by
  obtain ⟨k, rfl⟩ : ∃ k', k = k' + 1 := ⟨k - 1, by omega⟩
  obtain ⟨en, hn⟩ := kindN h
  have t1 := encT_len o.2.1 (by have := h.query; omega)
  have t2 := encT_len o.2.2.2.1 (by have := h.key; omega)
  have h0 := enc_len 9 o.1.toNat
  have h3 := enc_len 9 (zig o.2.2.1)
  have h4 := enc_len 9 (zig o.2.2.2.2.1)
  have h5 := enc_len 9 (zig o.2.2.2.2.2.1)
  have h6 := encPl_len _ h.pairs
  have q1 := h.query
  have q2 := h.key
  have hm : IntKind.wrap .i64 (bits .and .u64 ((o.1.toNat : Nat) : Int) (2147483647 : Int)) = o.1 := by
    have := bits_mask .u64 64 (by decide) wraps_u64 31 (by decide) ((o.1.toNat : Nat) : Int) (by omega) (by omega)
    rw [show (2147483647 : Int) = 2 ^ 31 - 1 by decide, this, wrapI (by omega) (by omega)]
    omega
  have f1 : ∀ rest : List Int, rest.length ≤ 100000 → ∀ κ, F24 k (encT o.2.1 ++ rest) 0 κ = κ (o.2.1, (rest, 0)) := fun rest hr => F24_eq o.2.1 (by omega) rest hr k (by omega)
  have f2 : ∀ rest : List Int, rest.length ≤ 100000 → ∀ κ, F24 k (encT o.2.2.2.1 ++ rest) 0 κ = κ (o.2.2.2.1, (rest, 0)) := fun rest hr => F24_eq o.2.2.2.1 (by omega) rest hr k (by omega)
  rw [F35, F35_B]
  simp only [chk1_eq, chk2_eq, chk3_eq, chk4_eq, chk5_eq, chk6_eq, chk7_eq, chk8_eq]
  unfold encO
  rw [F22_eq2 _ (by omega) _ (by simp only [List.length_append]; omega) k (by omega)]
  simp only []
  rw [f1 _ (by simp only [List.length_append]; omega)]
  simp only []
  rw [F23_eq h.place _ (by simp only [List.length_append]; omega) k (by omega)]
  simp only []
  rw [f2 _ (by simp only [List.length_append]; omega)]
  simp only []
  rw [F23_eq h.time _ (by simp only [List.length_append]; omega) k (by omega)]
  simp only []
  rw [F23_eq h.seq _ (by omega) k (by omega)]
  simp only []
  have h87 := F87_eq _ h.pairs [] (by simp) k (by omega)
  simp only [List.append_nil] at h87
  rw [h87]
  simp only [F26_eq k (by omega), hm]
  rw [if_neg (by decide)]
theorem L90_eq (l : List (Int × Int)) (hl : l.length ≤ 1000) : ∀ (m i k : Nat), i + m = l.length → m + 1 ≤ k → ∀ κ K, L90_0 k κ l l (i : Int) K = K (l.length : Int) := by
  intro m
  induction m with
  | zero =>
    intro i k hi hk κ K
    obtain ⟨k, rfl⟩ : ∃ k', k = k' + 1 := ⟨k - 1, by omega⟩
    have : i = l.length := by omega
    subst this
    rw [L90_0, L90_0_B]
    simp only [chk1_eq, chk2_eq, chk3_eq, chk4_eq, chk5_eq, chk6_eq, chk7_eq, chk8_eq, lt_f, Bool.false_eq_true, if_false]
  | succ m ih =>
    intro i k hi hk κ K
    obtain ⟨k, rfl⟩ : ∃ k', k = k' + 1 := ⟨k - 1, by omega⟩
    rw [L90_0, L90_0_B]
    simp only [chk1_eq, chk2_eq, chk3_eq, chk4_eq, chk5_eq, chk6_eq, chk7_eq, chk8_eq, Int.toNat_natCast, beq_self_eq_true, Bool.and_self, Bool.not_true, Bool.false_eq_true, if_false]
    rw [if_pos (lt_t (by omega)), if_pos (rng (by omega)), if_pos (rng (by omega)), wr1' (by omega)]
    exact ih (i + 1) k (by omega) (by omega) κ K
theorem F38_eq {o : T11} (h : OOk o) (k : Nat) (hk : 40 ≤ k) (κ : Bool → Option Res) : F38 k [o] [o] κ = κ true := by
  obtain ⟨k, rfl⟩ : ∃ k', k = k' + 1 + 1 + 1 + 1 := ⟨k - 4, by omega⟩
  have h5 := h.pairs.1
  have h90 : ∀ κ, F90 (k + 2) o.2.2.2.2.2.2 o.2.2.2.2.2.2 κ = κ true := by
    intro κ
    have hL := L90_eq o.2.2.2.2.2.2 (by omega) o.2.2.2.2.2.2.length 0 (k + 1) (by omega) (by omega)
    have hz : ((0 : Nat) : Int) = 0 := rfl
    rw [hz] at hL
    rw [F90, F90_B]
    simp only [chk1_eq, chk2_eq, chk3_eq, chk4_eq, chk5_eq, chk6_eq, chk7_eq, chk8_eq, bne_self_eq_false, Bool.false_eq_true, if_false, hL]
  have g0 : ([o] : List T11).getD (0 : Int).toNat (0, (⟨#[]⟩, (0, (⟨#[]⟩, (0, (0, [])))))) = o := rfl
  rw [F38, F38_B]
  simp only [chk1_eq, chk2_eq, chk3_eq, chk4_eq, chk5_eq, chk6_eq, chk7_eq, chk8_eq, bne_self_eq_false, Bool.false_eq_true, if_false]
  rw [L38_0, L38_0_B]
  simp only [chk1_eq, chk2_eq, chk3_eq, chk4_eq, chk5_eq, chk6_eq, chk7_eq, chk8_eq, g0, bne_self_eq_false, beq_self_eq_true, Bool.not_true, Bool.false_eq_true, if_false, h90]
  rw [if_pos (by rfl), if_pos (by rfl), if_pos (by rfl), L38_0, L38_0_B]
  simp only [chk1_eq, chk2_eq, chk3_eq, chk4_eq, chk5_eq, chk6_eq, chk7_eq, chk8_eq]
  rw [if_neg (by rw [wrapI (by omega) (by omega)]; simp)]
end Go.Proofs.Ytkfphlmbdppbfaa.CoT
