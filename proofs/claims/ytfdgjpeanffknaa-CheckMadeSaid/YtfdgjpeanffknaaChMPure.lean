/- CheckMade as a function over lists and numbers: it is true of all picks. No condition. -/
import Derived.Test.YtfdgjpeanffknaaChMField
namespace Go.Proofs.Ytfdgjpeanffknaa.ChM
open Go Go.Proofs.Ytfdgjpeanffknaa.Vm
set_option linter.unusedVariables false
set_option linter.unusedSimpArgs false
set_option maxRecDepth 100000
theorem F11_var {i : Nat} (hi : i < 4) (k : Nat) (hk : 60 ≤ k) (κ : Bool → Option Res) : F11 k (VARS.getD i (⟨#[]⟩ : ByteArray)) κ = κ true := by
  obtain ⟨k, rfl⟩ : ∃ k', k = k' + 60 := ⟨k - 60, by omega⟩
  rcases (show i = 0 ∨ i = 1 ∨ i = 2 ∨ i = 3 by omega) with rfl | rfl | rfl | rfl <;> kernel_rfl
theorem L29_eq (es : T14) (i : Nat) (hi : i < es.length) (hes : es.length ≤ 4) (hv : ∀ j, j < es.length → (es.getD j zE).1 = VARS.getD j (⟨#[]⟩ : ByteArray)) : ∀ (m j k : Nat), j + m = i → m + 2 ≤ k → ∀ κ K,
    L29_0 k κ es (es.length : Int) (j : Int) (VARS.getD i (⟨#[]⟩ : ByteArray)) K = κ ((i : Int), VARS.getD i (⟨#[]⟩ : ByteArray)) := by
  intro m
  induction m with
  | zero =>
    intro j k hj hk κ K
    obtain ⟨k, rfl⟩ : ∃ k', k = k' + 1 + 1 := ⟨k - 2, by omega⟩
    have : j = i := by omega
    subst this
    rw [L29_0, L29_0_B]
    simp only [chk1_eq, chk2_eq, chk3_eq, chk4_eq, chk5_eq, chk6_eq, chk7_eq, chk8_eq, F30, F30_B, Int.toNat_natCast, hv j hi, beq_self_eq_true, if_true]
    rw [if_pos (lt_t hi), if_pos (by rw [Bool.true_and]; exact rng hi)]
  | succ m ih =>
    intro j k hj hk κ K
    obtain ⟨k, rfl⟩ : ∃ k', k = k' + 1 + 1 := ⟨k - 2, by omega⟩
    have hjl : j < es.length := by omega
    rw [L29_0, L29_0_B]
    simp only [chk1_eq, chk2_eq, chk3_eq, chk4_eq, chk5_eq, chk6_eq, chk7_eq, chk8_eq, F30, F30_B, Int.toNat_natCast, hv j hjl, vars_ne (show j < 4 by omega) (show i < 4 by omega) (show j ≠ i by omega), Bool.false_eq_true, if_false]
    rw [if_pos (lt_t hjl), if_pos (by rw [Bool.true_and]; exact rng hjl), wr1 (by omega)]
    exact ih (j + 1) (k + 1) (by omega) (by omega) κ K
theorem L15_ty {l : List ByteArray} (hl : isTy l) (k : Nat) (hk : 50 ≤ k) (κ : Int × T5 → Option Res) (p0 : Int) (p4 : T14) (p5 p6 : Int) (p7 : ByteArray) (p9 : Bool) (p10 p11 : Int) (p12 : T8) (K : Int × T5 → Option Res) :
    L15v1_0 k κ p0 l (l.length : Int) 0 p4 p5 p6 p7 l p9 p10 p11 p12 types K = K ((l.length : Int), types) := by
  obtain ⟨k, rfl⟩ : ∃ k', k = k' + 50 := ⟨k - 50, by omega⟩
  rcases hl with rfl | rfl | rfl | rfl | rfl | rfl <;> kernel_rfl
theorem ty_len {l : List ByteArray} (hl : isTy l) : 1 ≤ l.length ∧ l.length ≤ 3 := by
  rcases hl with rfl | rfl | rfl | rfl | rfl | rfl <;> decide
theorem vr_is {M : Bool} {i : Nat} (hi : i < 4) (v : ByteArray) (h : Vr M i v) : isVar v := by
  rcases h with rfl | ⟨rfl, _⟩
  · rcases (show i = 0 ∨ i = 1 ∨ i = 2 ∨ i = 3 by omega) with rfl | rfl | rfl | rfl
    · exact .inl rfl
    · exact .inr (.inl rfl)
    · exact .inr (.inr (.inl rfl))
    · exact .inr (.inr (.inr rfl))
  · exact .inl rfl
theorem scope_ok (es : T14) (n : Nat) (hn : es.length = n) (h4 : n ≤ 4) (he : ∀ j, j < n → EOk n (mx0 es) j (es.getD j zE)) (i : Nat) (hi : i < n) : isScope (Vr (mx0 es) i) (scF es i n 0 []) := by
  have hv : ∀ j, j < es.length → (es.getD j zE).1 = VARS.getD j (⟨#[]⟩ : ByteArray) := fun j hj => (he j (by omega)).var
  have hlen : (scF es i n 0 []).length ≤ 50 := by
    obtain ⟨r, h, hl⟩ := scF_pre es i n 0 []
    rw [h]; simp; omega
  have go : ∀ t, t < n → isIn es i t = true → ∀ k, 60 ≤ k → (∀ κ, F34v1 k (scF es i n 0 []) (nfld (VARS.getD t (⟨#[]⟩ : ByteArray)) ⟨#[120]⟩) types κ = κ (1, (0, types))) ∧ ∀ κ, F34v1 k (scF es i n 0 []) (nfld (VARS.getD t (⟨#[]⟩ : ByteArray)) ⟨#[115]⟩) types κ = κ (2, (0, types)) := by
    intro t ht hin k hk
    obtain ⟨q, h1, h2, h3⟩ := scF_find es i t (by omega) hv (by omega) hin n 0 [] (by omega) (by omega) (fun r hr => by simp at hr)
    rw [hv t (by omega)] at h2 h3
    exact field_ok (he t ht).tys hlen q h1 h2 h3 k hk
  intro v hV k hk
  rcases hV with rfl | ⟨rfl, hM⟩
  · exact go i hi (by unfold isIn; simp) k hk
  · refine go 0 (by omega) ?_ k hk
    by_cases h0 : i = 0
    · subst h0; unfold isIn; simp
    · have hneg : (es.getD 0 zE).2.2.1 = false := by
        cases h : (es.getD 0 zE).2.2.1 with
        | false => rfl
        | true => exact absurd ((he 0 (by omega)).neg h).1.1 (by omega)
      have hmx : ((es.getD 0 zE).2.2.2.2.1 == 1) = true := hM
      unfold isIn
      rw [hneg, hmx]
      simp; omega
theorem elem_ok (es : T14) (n : Nat) (hn : es.length = n) (h4 : n ≤ 4) (he : ∀ j, j < n → EOk n (mx0 es) j (es.getD j zE)) (w c : Int) (i : Nat) (hi : i < n) (k : Nat) (hk : 100 ≤ k) (κ : Int × T5 → Option Res) :
    F15v1 k (es, (w, c)) (i : Int) types κ = κ (0, types) := by
  obtain ⟨k, rfl⟩ : ∃ k', k = k' + 1 := ⟨k - 1, by omega⟩
  have hv : ∀ j, j < es.length → (es.getD j zE).1 = VARS.getD j (⟨#[]⟩ : ByteArray) := fun j hj => (he j (by omega)).var
  have E := he i hi
  obtain ⟨t1, t3⟩ := ty_len E.tys
  have hF22 : ∀ κ, F22 k (es, (w, c)) (VARS.getD i (⟨#[]⟩ : ByteArray)) κ = κ (i : Int) := by
    intro κ
    obtain ⟨k, rfl⟩ : ∃ k', k = k' + 1 + 1 := ⟨k - 2, by omega⟩
    rw [F22, F22_B, F29, F29_B]
    simp only [chk1_eq, chk2_eq, chk3_eq, chk4_eq, chk5_eq, chk6_eq, chk7_eq, chk8_eq]
    exact L29_eq es i (by omega) (by omega) hv i 0 k (by omega) (by omega) _ _
  have hF25 : ∀ κ, F25 k (es, (w, c)) (i : Int) κ = κ (scF es i n 0 []) := by
    intro κ
    obtain ⟨k, rfl⟩ : ∃ k', k = k' + 1 := ⟨k - 1, by omega⟩
    rw [F25, F25_B]
    simp only [chk1_eq, chk2_eq, chk3_eq, chk4_eq, chk5_eq, chk6_eq, chk7_eq, chk8_eq]
    have h := L25_eq es i (by omega) (fun j => by
      by_cases hj : j < n
      · have := (ty_len (he j hj).tys).2; omega
      · rw [List.getD_eq_getElem?_getD, List.getElem?_eq_none (by omega)]; simp) n 0 k [] (by omega) (by omega) (by simp; omega) κ
    exact h _
  have hPred : (es.getD i zE).2.2.2.2.2 = [] ∨ ((((es.getD i zE).2.2.2.2.2.length : Int) == 0) = false ∧ ∀ κ, F24v1 k (scF es i n 0 []) (es.getD i zE).2.2.2.2.2 types κ = κ (3, (0, types))) := by
    rcases E.pred with h | h
    · exact .inl h
    · by_cases h0 : (es.getD i zE).2.2.2.2.2 = []
      · exact .inl h0
      · refine .inr ⟨?_, fun κ => F24_gen (fun v hV => vr_is (by omega) v hV) h (by have := E.len; omega) (scope_ok es n hn h4 he i hi) k (by have := E.len; omega) κ⟩
        cases hx : (es.getD i zE).2.2.2.2.2 with
        | nil => exact absurd hx h0
        | cons a l => simp; omega
  have q1 : ¬ (((es.getD i zE).2.1.length : Int) == 0) = true := fun h => by have := eq_of_beq h; omega
  have q2 : ¬ decide (((es.getD i zE).2.1.length : Int) > 16) = true := fun h => by have := of_decide_eq_true h; omega
  have q3 : ¬ decide ((i : Int) < (i : Int)) = true := fun h => by have := of_decide_eq_true h; omega
  have q4 : ¬ decide ((es.getD i zE).2.2.2.1 < 1) = true := fun h => by have := of_decide_eq_true h; have := E.mn; omega
  have q5 : ¬ decide ((es.getD i zE).2.2.2.2.1 < (es.getD i zE).2.2.2.1) = true := fun h => by have := of_decide_eq_true h; have := E.mx; omega
  have q6 : ¬ decide ((es.getD i zE).2.2.2.2.1 > 4) = true := fun h => by have := of_decide_eq_true h; have := E.mx4; omega
  rw [F15v1, F15v1_B]
  simp only [chk1_eq, chk2_eq, chk3_eq, chk4_eq, chk5_eq, chk6_eq, chk7_eq, chk8_eq, Int.toNat_natCast, E.var, F11_var (show i < 4 by omega) k (by omega), hF22, L15_ty E.tys k (by omega)]
  rw [if_pos (by rw [Bool.true_and]; exact rng (by omega)), if_neg (by simp), if_neg q1, if_neg q2, if_neg q3, if_neg q4, if_neg q5, if_neg q6]
  have fin : ∀ κ : Int × T5 → Option Res, (if ((((es.getD i zE).2.2.2.2.2.length : Int) == 0) = true) then κ (0, types) else F25 k (es, (w, c)) (i : Int) fun x6 => F24v1 k x6 (es.getD i zE).2.2.2.2.2 types fun x7 =>
      if (x7.2.1 == 0) = true then (if (x7.1 != 3) = true then κ (10, x7.2.2) else κ (x7.2.1, x7.2.2)) else (if false = true then none else κ (x7.2.1, x7.2.2))) = κ (0, types) := by
    intro κ
    rcases hPred with h | ⟨h, hK⟩
    · rw [if_pos (by rw [h]; rfl)]
    · rw [if_neg (by rw [h]; simp), hF25, hK]; rfl
  cases hneg : (es.getD i zE).2.2.1 with
  | true =>
    have hm := (E.neg hneg).2
    rw [if_pos rfl, if_neg (by rw [hm]; simp)]
    exact fin κ
  | false =>
    rw [if_neg (by simp), if_neg (by simp)]
    exact fin κ
theorem L9_eq (es : T14) (n : Nat) (hn : es.length = n) (h4 : n ≤ 4) (he : ∀ j, j < n → EOk n (mx0 es) j (es.getD j zE)) (w c : Int) : ∀ (m i k : Nat), i + m = n → m + 102 ≤ k → ∀ κ K,
    L9v1_0 k κ (n : Int) (i : Int) es w c types K = K ((n : Int), types) := by
  intro m
  induction m with
  | zero =>
    intro i k hi hk κ K
    obtain ⟨k, rfl⟩ : ∃ k', k = k' + 1 := ⟨k - 1, by omega⟩
    have : i = n := by omega
    subst this
    rw [L9v1_0, L9v1_0_B]
    simp only [chk1_eq, chk2_eq, chk3_eq, chk4_eq, chk5_eq, chk6_eq, chk7_eq, chk8_eq, lt_f, Bool.false_eq_true, if_false]
  | succ m ih =>
    intro i k hi hk κ K
    obtain ⟨k, rfl⟩ : ∃ k', k = k' + 1 := ⟨k - 1, by omega⟩
    rw [L9v1_0, L9v1_0_B]
    simp only [chk1_eq, chk2_eq, chk3_eq, chk4_eq, chk5_eq, chk6_eq, chk7_eq, chk8_eq, elem_ok es n hn h4 he w c i (by omega) k (by omega)]
    rw [if_pos (lt_t (by omega)), if_neg (by simp), wr1 (by omega)]
    exact ih (i + 1) k (by omega) (by omega) κ K
theorem F9_ok (es : T14) (n : Nat) (hn : es.length = n) (h1 : 1 ≤ n) (h4 : n ≤ 4) (he : ∀ j, j < n → EOk n (mx0 es) j (es.getD j zE)) (w c : Int) (hw : 1 ≤ w ∧ w ≤ 16) (hc : 1 ≤ c ∧ c ≤ 1000) (k : Nat) (hk : 110 ≤ k) (κ : Int × T5 → Option Res) :
    F9v1 k (es, (w, c)) types κ = κ (0, types) := by
  obtain ⟨k, rfl⟩ : ∃ k', k = k' + 1 := ⟨k - 1, by omega⟩
  have wn : IntKind.wrap .i64 ((n : Int) - 1) = ((n - 1 : Nat) : Int) := by rw [wrn (by omega) (by omega)]; omega
  have z0 : (0 : Int).toNat = 0 := rfl
  have n0 : (es.getD 0 zE).2.2.1 = false := by
    cases h : (es.getD 0 zE).2.2.1 with
    | false => rfl
    | true => exact absurd ((he 0 (by omega)).neg h).1.1 (by omega)
  have n1 : (es.getD (n - 1) zE).2.2.1 = false := by
    cases h : (es.getD (n - 1) zE).2.2.1 with
    | false => rfl
    | true => exact absurd ((he (n - 1) (by omega)).neg h).1.2 (by omega)
  have hz : ((0 : Nat) : Int) = 0 := rfl
  have hL := L9_eq es n hn h4 he w c n 0 k (by omega) (by omega)
  rw [hz] at hL
  rw [F9v1, F9v1_B]
  simp only [chk1_eq, chk2_eq, chk3_eq, chk4_eq, chk5_eq, chk6_eq, chk7_eq, chk8_eq, wn, Int.toNat_natCast, z0, n0, n1, hn, hL]
  rw [if_neg (by simp; omega), if_neg (by simp; omega), if_pos (by simp; omega), if_neg (by simp), if_pos (by simp; omega), if_neg (by simp), if_neg (by simp; omega), if_neg (by simp; omega), if_neg (by simp; omega), if_neg (by simp; omega)]
theorem F6_types (κ : Int → Option Res) (κ1 : Int × T5 → Option Res) : F6 149 types κ κ1 = κ1 (0, types) := by kernel_rfl
theorem F6_types' (κ : Int → Option Res) (κ1 : Int × T5 → Option Res) : F6 148 types κ κ1 = κ1 (0, types) := by kernel_rfl
theorem F7_types (κ : T5 → Option Res) : F7 149 κ = κ types := by kernel_rfl
theorem F7_types' (κ : T5 → Option Res) : F7 148 κ = κ types := by kernel_rfl
theorem F8_true (κ : Bool → Option Res) : F8 149 κ = κ true := by
  rw [F8, F8_B, F7_types', F6_types']
  kernel_rfl
theorem F3_true (p : List Int) (κ : Bool → Option Res) : F3 150 p κ = κ true := by
  obtain ⟨n, es, w, c, h1, h2, h3, h4, h5, h6, h7⟩ := query p 149 (by omega)
  rw [F3, F3_B, F7_types]
  simp only [chk1_eq, chk2_eq, chk3_eq, chk4_eq, chk5_eq, chk6_eq, chk7_eq, chk8_eq]
  rw [F6_types]
  simp only [F8_true, if_true, h7, F9_ok es n h3 h1 h2 h4 w c h5 h6 149 (by omega)]
  rfl
end Go.Proofs.Ytfdgjpeanffknaa.ChM
