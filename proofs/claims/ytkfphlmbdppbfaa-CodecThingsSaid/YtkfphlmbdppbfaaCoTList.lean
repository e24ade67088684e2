/- Lists of events: their bytes, and read again. No condition. -/
import Derived.Test.YtkfphlmbdppbfaaCoTEvt
namespace Go.Proofs.Ytkfphlmbdppbfaa.CoT
open Go Go.Proofs.Ytkfphlmbdppbfaa.Vm
set_option linter.unusedVariables false
set_option linter.unusedSimpArgs false
set_option maxRecDepth 100000
theorem wr1' {i : Nat} (h : i < 100000) : IntKind.wrap .i64 ((i : Int) + 1) = ((i + 1 : Nat) : Int) := by rw [wrn (by omega) (by omega)]; omega
abbrev zE : T13 := ((⟨#[]⟩ : ByteArray), ((⟨#[]⟩ : ByteArray), ((0 : Int), ((0 : Int), ([] : List T2)))))
def encEs (l : T14) : Nat → Nat → List Int
  | 0, _ => []
  | m + 1, i => encE (l.getD i zE) ++ encEs l m (i + 1)
def AllE (l : T14) : Prop := ∀ i, i < l.length → EOk (l.getD i zE)
theorem encEs_len (l : T14) (h : AllE l) : ∀ m i, i + m = l.length → 5 * m ≤ (encEs l m i).length ∧ (encEs l m i).length ≤ 600 * m
  | 0, i, _ => by simp [encEs]
  | m + 1, i, hi => by
    have h1 := encE_len (h i (by omega))
    have h2 := encEs_len l h m (i + 1) (by omega)
    unfold encEs
    rw [List.length_append]; omega
theorem L31_eq (l : T14) (hl : l.length ≤ 10) (h : AllE l) : ∀ (m i k : Nat) (b : List Int), i + m = l.length → m + 26 ≤ k → b.length + 600 * m ≤ 20000 → ∀ κ K,
    L31_0 k κ l (l.length : Int) (i : Int) b K = K ((l.length : Int), b ++ encEs l m i) := by
  intro m
  induction m with
  | zero =>
    intro i k b hi hk hb κ K
    obtain ⟨k, rfl⟩ : ∃ k', k = k' + 1 := ⟨k - 1, by omega⟩
    have : i = l.length := by omega
    subst this
    rw [L31_0, L31_0_B]
    simp only [chk1_eq, chk2_eq, chk3_eq, chk4_eq, chk5_eq, chk6_eq, chk7_eq, chk8_eq, lt_f, Bool.false_eq_true, if_false, encEs, List.append_nil]
  | succ m ih =>
    intro i k b hi hk hb κ K
    obtain ⟨k, rfl⟩ : ∃ k', k = k' + 1 := ⟨k - 1, by omega⟩
    have hv := h i (by omega)
    have hln := encE_len hv
    rw [L31_0, L31_0_B]
    simp only [chk1_eq, chk2_eq, chk3_eq, chk4_eq, chk5_eq, chk6_eq, chk7_eq, chk8_eq, Int.toNat_natCast]
    rw [if_pos (lt_t (by omega)), if_pos (rng (by omega))]
    show F83 k (l.getD i zE) b _ = _
    rw [F83_eq hv k (by omega) b (by omega), wr1 (by omega), ih (i + 1) k (b ++ encE (l.getD i zE)) (by omega) (by omega) (by rw [List.length_append]; omega) κ K, List.append_assoc]
    rfl
def encL (l : T14) : List Int := enc 9 l.length ++ encEs l l.length 0
theorem F31_eq (l : T14) (hl : l.length ≤ 10) (h : AllE l) (k : Nat) (hk : 40 ≤ k) (κ : List Int → Option Res) : F31 k l κ = κ (encL l) := by
  obtain ⟨k, rfl⟩ : ∃ k', k = k' + 1 + 1 := ⟨k - 2, by omega⟩
  have h5 := enc_len 9 l.length
  have h6 := encEs_len l h l.length 0 (by omega)
  have hL := L31_eq l hl h l.length 0 (k + 1) ([] ++ enc 9 l.length) (by omega) (by omega) (by rw [List.nil_append]; omega)
  have hz : ((0 : Nat) : Int) = 0 := rfl
  rw [hz] at hL
  rw [F31, F31_B]
  simp only [chk1_eq, chk2_eq, chk3_eq, chk4_eq, chk5_eq, chk6_eq, chk7_eq, chk8_eq]
  rw [w64 (by omega), F13_nat _ (k + 1) [] (by omega) (by omega) (by simp), hL, F28, F28_B]
  simp only [chk1_eq, chk2_eq, chk3_eq, chk4_eq, chk5_eq, chk6_eq, chk7_eq, chk8_eq, Bool.false_eq_true, if_false, List.nil_append, Bool.true_and]
  rw [if_pos (decide_eq_true (by rw [List.length_append]; omega))]
  rfl
theorem take_succE {l : T14} {i : Nat} (h : i < l.length) : l.take i ++ [l.getD i zE] = l.take (i + 1) := by
  rw [List.take_add_one, List.getD_eq_getElem?_getD, List.getElem?_eq_getElem h]; rfl
theorem L32_eq (l : T14) (hl : l.length ≤ 10) (h : AllE l) : ∀ (m i k : Nat), i + m = l.length → m + 31 ≤ k → ∀ κ K,
    L32_0 k κ (l.take i) (l.length : Int) (i : Int) (encEs l m i) 0 K = K (l, ((l.length : Int), ([], 0))) := by
  intro m
  induction m with
  | zero =>
    intro i k hi hk κ K
    obtain ⟨k, rfl⟩ : ∃ k', k = k' + 1 := ⟨k - 1, by omega⟩
    have : i = l.length := by omega
    subst this
    rw [L32_0, L32_0_B]
    simp only [chk1_eq, chk2_eq, chk3_eq, chk4_eq, chk5_eq, chk6_eq, chk7_eq, chk8_eq, lt_f, Bool.false_eq_true, if_false, encEs, List.take_length]
  | succ m ih =>
    intro i k hi hk κ K
    obtain ⟨k, rfl⟩ : ∃ k', k = k' + 1 := ⟨k - 1, by omega⟩
    have hv := h i (by omega)
    have hls := encEs_len l h m (i + 1) (by omega)
    rw [L32_0, L32_0_B]
    simp only [chk1_eq, chk2_eq, chk3_eq, chk4_eq, chk5_eq, chk6_eq, chk7_eq, chk8_eq]
    rw [if_pos (lt_t (by omega)), show encEs l (m + 1) i = encE (l.getD i zE) ++ encEs l m (i + 1) from rfl, F84_eq hv _ (by omega) k (by omega)]
    rw [if_pos (decide_eq_true (by simp only [List.length_take, List.length_cons, List.length_nil]; omega)), wr1 (by omega), take_succE (by omega)]
    exact ih (i + 1) k (by omega) (by omega) κ K
theorem F29_eq (k : Nat) (hk : 1 ≤ k) (l : List Int) (κ : Int × List Int × Int → Option Res) : F29v2 k l 0 κ = κ ((l.length : Int), (l, 0)) := by
  obtain ⟨k, rfl⟩ : ∃ k', k = k' + 1 := ⟨k - 1, by omega⟩
  rw [F29v2, F29v2_B]
  simp only [chk1_eq, chk2_eq, chk3_eq, chk4_eq, chk5_eq, chk6_eq, chk7_eq, chk8_eq, Bool.false_eq_true, if_false]
theorem F21_eq (k : Nat) (hk : 1 ≤ k) (l : List Int) (hl : l.length ≤ 1000000) (κ : List Int × Int → Option Res) : F21 k l κ = κ (l, 0) := by
  obtain ⟨k, rfl⟩ : ∃ k', k = k' + 1 := ⟨k - 1, by omega⟩
  rw [F21, F21_B]
  simp only [chk1_eq, chk2_eq, chk3_eq, chk4_eq, chk5_eq, chk6_eq, chk7_eq, chk8_eq, Bool.true_and]
  rw [if_pos (decide_eq_true hl)]
theorem F32_eq (l : T14) (hl : l.length ≤ 10) (h : AllE l) (k : Nat) (hk : 60 ≤ k) (κ : T14 × Int → Option Res) : F32 k (encL l) κ = κ (l, 0) := by
  obtain ⟨k, rfl⟩ : ∃ k', k = k' + 1 := ⟨k - 1, by omega⟩
  have h5 := enc_len 9 l.length
  have h6 := encEs_len l h l.length 0 (by omega)
  have hlen : (encL l).length ≤ 7000 := by unfold encL; rw [List.length_append]; omega
  have hc := F82_eq2 l.length 5 (by omega) (by omega) (by omega) (encEs l l.length 0) (by omega) (by omega) k (by omega)
  have hL := L32_eq l hl h l.length 0 k (by omega) (by omega)
  have hz : ((0 : Nat) : Int) = 0 := rfl
  have h55 : ((5 : Nat) : Int) = 5 := rfl
  rw [h55] at hc
  rw [hz, List.take_zero] at hL
  rw [F32, F32_B]
  simp only [chk1_eq, chk2_eq, chk3_eq, chk4_eq, chk5_eq, chk6_eq, chk7_eq, chk8_eq, F21_eq k (by omega) (encL l) (by omega)]
  rw [if_neg (by simp; omega)]
  show F82 k 5 (enc 9 l.length ++ encEs l l.length 0) 0 _ = _
  rw [hc, hL]
  simp only [F29_eq k (by omega), F26_eq k (by omega)]
  rw [if_neg (by decide), if_neg (by decide)]
theorem L88_eq (l : T4) (hl : l.length ≤ 1000) (a b c d : ByteArray) (p q r s : Int) : ∀ (m i k : Nat), i + m = l.length → m + 1 ≤ k → ∀ κ K, L88_0 k κ (i : Int) a b p q l c d r s l K = K (l.length : Int) := by
  intro m
  induction m with
  | zero =>
    intro i k hi hk κ K
    obtain ⟨k, rfl⟩ : ∃ k', k = k' + 1 := ⟨k - 1, by omega⟩
    have : i = l.length := by omega
    subst this
    rw [L88_0, L88_0_B]
    simp only [chk1_eq, chk2_eq, chk3_eq, chk4_eq, chk5_eq, chk6_eq, chk7_eq, chk8_eq, lt_f, Bool.false_eq_true, if_false]
  | succ m ih =>
    intro i k hi hk κ K
    obtain ⟨k, rfl⟩ : ∃ k', k = k' + 1 := ⟨k - 1, by omega⟩
    rw [L88_0, L88_0_B]
    simp only [chk1_eq, chk2_eq, chk3_eq, chk4_eq, chk5_eq, chk6_eq, chk7_eq, chk8_eq, Int.toNat_natCast, beq_self_eq_true, beqB, Bool.and_self, Bool.not_true, Bool.false_eq_true, if_false]
    rw [if_pos (lt_t (by omega)), if_pos (rng (by omega)), if_pos (rng (by omega)), wr1' (by omega)]
    exact ih (i + 1) k (by omega) (by omega) κ K
theorem F88_eq (e : T13) (he : e.2.2.2.2.length ≤ 100) (k : Nat) (hk : 110 ≤ k) (κ : Bool → Option Res) : F88 k e e κ = κ true := by
  obtain ⟨k, rfl⟩ : ∃ k', k = k' + 1 := ⟨k - 1, by omega⟩
  have hL := L88_eq e.2.2.2.2 (by omega) e.1 e.2.1 e.1 e.2.1 e.2.2.1 e.2.2.2.1 e.2.2.1 e.2.2.2.1 e.2.2.2.2.length 0 k (by omega) (by omega)
  have hz : ((0 : Nat) : Int) = 0 := rfl
  rw [hz] at hL
  rw [F88, F88_B]
  simp only [chk1_eq, chk2_eq, chk3_eq, chk4_eq, chk5_eq, chk6_eq, chk7_eq, chk8_eq, beq_self_eq_true, Bool.not_true, bne_self_eq_false, Bool.false_eq_true, if_false, hL]
theorem L36_eq (l : T14) (hl : l.length ≤ 100) (h : ∀ i, i < l.length → (l.getD i zE).2.2.2.2.length ≤ 100) : ∀ (m i k : Nat), i + m = l.length → m + 112 ≤ k → ∀ κ K, L36_0 k κ l l (i : Int) K = K (l.length : Int) := by
  intro m
  induction m with
  | zero =>
    intro i k hi hk κ K
    obtain ⟨k, rfl⟩ : ∃ k', k = k' + 1 := ⟨k - 1, by omega⟩
    have : i = l.length := by omega
    subst this
    rw [L36_0, L36_0_B]
    simp only [chk1_eq, chk2_eq, chk3_eq, chk4_eq, chk5_eq, chk6_eq, chk7_eq, chk8_eq, lt_f, Bool.false_eq_true, if_false]
  | succ m ih =>
    intro i k hi hk κ K
    obtain ⟨k, rfl⟩ : ∃ k', k = k' + 1 := ⟨k - 1, by omega⟩
    rw [L36_0, L36_0_B]
    simp only [chk1_eq, chk2_eq, chk3_eq, chk4_eq, chk5_eq, chk6_eq, chk7_eq, chk8_eq, Int.toNat_natCast]
    rw [if_pos (lt_t (by omega)), if_pos (rng (by omega)), if_pos (rng (by omega))]
    show F88 k (l.getD i zE) (l.getD i zE) _ = _
    rw [F88_eq _ (h i (by omega)) k (by omega)]
    simp only [Bool.not_true, Bool.false_eq_true, if_false]
    rw [wr1' (by omega)]
    exact ih (i + 1) k (by omega) (by omega) κ K
theorem F36_eq (l : T14) (hl : l.length ≤ 10) (h : AllE l) (k : Nat) (hk : 130 ≤ k) (κ : Bool → Option Res) : F36 k l l κ = κ true := by
  obtain ⟨k, rfl⟩ : ∃ k', k = k' + 1 := ⟨k - 1, by omega⟩
  have hL := L36_eq l (by omega) (fun i hi => by have := (h i hi).len; omega) l.length 0 k (by omega) (by omega)
  have hz : ((0 : Nat) : Int) = 0 := rfl
  rw [hz] at hL
  rw [F36, F36_B]
  simp only [chk1_eq, chk2_eq, chk3_eq, chk4_eq, chk5_eq, chk6_eq, chk7_eq, chk8_eq, bne_self_eq_false, Bool.false_eq_true, if_false, hL]
end Go.Proofs.Ytkfphlmbdppbfaa.CoT
