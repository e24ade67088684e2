/- The scope of an element of such a query: the variables of its predicate are there, with their types. No condition. -/
import Derived.Test.YtfdgjpeanffknaaChMQ
namespace Go.Proofs.Ytfdgjpeanffknaa.ChM
open Go Go.Proofs.Ytfdgjpeanffknaa.Vm
set_option linter.unusedVariables false
set_option linter.unusedSimpArgs false
set_option maxRecDepth 100000
abbrev zT : T1 := ((⟨#[]⟩ : ByteArray), ([] : List ByteArray))
theorem L38_find (sc : T3) (v : ByteArray) (q : Nat) (hq : q < sc.length) (hl : sc.length ≤ 100) (hit : ((sc.getD q zT).1.toList == v.toList) = true) (miss : ∀ j, j < q → ((sc.getD j zT).1.toList == v.toList) = false) :
    ∀ (m j k : Nat), j + m = q → m + 2 ≤ k → ∀ κ (p3 p4 p5 : Int) (p6 : ByteArray) (p7 : Bool) (p9 : ByteArray) K, L38_0 k κ sc (sc.length : Int) (j : Int) p3 p4 p5 p6 p7 v p9 K = κ ((q : Int), (p3, (p4, (p5, (p6, (p7, (v, p9))))))) := by
  intro m
  induction m with
  | zero =>
    intro j k hj hk κ p3 p4 p5 p6 p7 p9 K
    obtain ⟨k, rfl⟩ : ∃ k', k = k' + 1 + 1 := ⟨k - 2, by omega⟩
    have : j = q := by omega
    subst this
    rw [L38_0, L38_0_B]
    simp only [chk1_eq, chk2_eq, chk3_eq, chk4_eq, chk5_eq, chk6_eq, chk7_eq, chk8_eq, F39, F39_B, Int.toNat_natCast, hit, if_true]
    rw [if_pos (lt_t hq), if_pos (by rw [Bool.true_and]; exact rng hq)]
  | succ m ih =>
    intro j k hj hk κ p3 p4 p5 p6 p7 p9 K
    obtain ⟨k, rfl⟩ : ∃ k', k = k' + 1 + 1 := ⟨k - 2, by omega⟩
    have hjl : j < sc.length := by omega
    rw [L38_0, L38_0_B]
    simp only [chk1_eq, chk2_eq, chk3_eq, chk4_eq, chk5_eq, chk6_eq, chk7_eq, chk8_eq, F39, F39_B, Int.toNat_natCast, miss j (by omega), Bool.false_eq_true, if_false]
    rw [if_pos (lt_t hjl), if_pos (by rw [Bool.true_and]; exact rng hjl), wr1 (by omega)]
    exact ih (j + 1) (k + 1) (by omega) (by omega) κ p3 p4 p5 p6 p7 p9 K
theorem L34_ty {l : List ByteArray} (hl : isTy l) (k : Nat) (hk : 50 ≤ k) (κ : Int × Int × T5 → Option Res) (p4 p5 p6 : Int) (p7 : ByteArray) (p8 : Bool) (v : ByteArray) (K : Int × Int × T5 → Option Res) :
    L34v1_0 k κ 0 l (l.length : Int) 0 p4 p5 p6 p7 p8 v ⟨#[120]⟩ types K = K (1, ((l.length : Int), types)) ∧ L34v1_0 k κ 0 l (l.length : Int) 0 p4 p5 p6 p7 p8 v ⟨#[115]⟩ types K = K (2, ((l.length : Int), types)) := by
  obtain ⟨k, rfl⟩ : ∃ k', k = k' + 50 := ⟨k - 50, by omega⟩
  rcases hl with rfl | rfl | rfl | rfl | rfl | rfl <;> exact ⟨by kernel_rfl, by kernel_rfl⟩
theorem field_ok {sc : T3} {v : ByteArray} {l : List ByteArray} (hl : isTy l) (hlen : sc.length ≤ 50) (q : Nat) (hq : q < sc.length) (hget : sc.getD q zT = (v, l)) (miss : ∀ j, j < q → ((sc.getD j zT).1.toList == v.toList) = false) (k : Nat) (hk : 60 ≤ k) :
    (∀ κ, F34v1 k sc (nfld v ⟨#[120]⟩) types κ = κ (1, (0, types))) ∧ ∀ κ, F34v1 k sc (nfld v ⟨#[115]⟩) types κ = κ (2, (0, types)) := by
  obtain ⟨k, rfl⟩ : ∃ k', k = k' + 1 + 1 := ⟨k - 2, by omega⟩
  have hit : ((sc.getD q zT).1.toList == v.toList) = true := by rw [hget]; exact beq_self_eq_true _
  have hf := L38_find sc v q hq (by omega) hit miss q 0 k (by omega) (by omega)
  have hz : ((0 : Nat) : Int) = 0 := rfl
  rw [hz] at hf
  refine ⟨fun κ => ?_, fun κ => ?_⟩
  · rw [F34v1, F34v1_B]
    simp only [chk1_eq, chk2_eq, chk3_eq, chk4_eq, chk5_eq, chk6_eq, chk7_eq, chk8_eq, F38, F38_B, hf, Int.toNat_natCast, hget, (L34_ty hl (k + 1) (by omega) _ _ _ _ _ _ _ _).1]
    rw [if_neg (by simp), if_pos (by rw [Bool.true_and]; exact rng hq), if_neg (by simp)]
  · rw [F34v1, F34v1_B]
    simp only [chk1_eq, chk2_eq, chk3_eq, chk4_eq, chk5_eq, chk6_eq, chk7_eq, chk8_eq, F38, F38_B, hf, Int.toNat_natCast, hget, (L34_ty hl (k + 1) (by omega) _ _ _ _ _ _ _ _).2]
    rw [if_neg (by simp), if_pos (by rw [Bool.true_and]; exact rng hq), if_neg (by simp)]
theorem vars_ne {i j : Nat} (hi : i < 4) (hj : j < 4) (h : i ≠ j) : ((VARS.getD i (⟨#[]⟩ : ByteArray)).toList == (VARS.getD j (⟨#[]⟩ : ByteArray)).toList) = false := by
  rcases (show i = 0 ∨ i = 1 ∨ i = 2 ∨ i = 3 by omega) with rfl | rfl | rfl | rfl <;> rcases (show j = 0 ∨ j = 1 ∨ j = 2 ∨ j = 3 by omega) with rfl | rfl | rfl | rfl <;> first | exact absurd rfl h | kernel_rfl
/-- is a thing added to the scope? -/
def isIn (es : T14) (i j : Nat) : Bool := decide (j = i) || (decide (j < i) && (!(es.getD j zE).2.2.1 && ((es.getD j zE).2.2.2.2.1 == 1)))
def scAdd (es : T14) (i : Nat) (sc : T3) (j : Nat) : T3 := if isIn es i j = true then sc ++ [((es.getD j zE).1, (es.getD j zE).2.1)] else sc
def scF (es : T14) (i : Nat) : Nat → Nat → T3 → T3
  | 0, _, sc => sc
  | m + 1, j, sc => scF es i m (j + 1) (scAdd es i sc j)
theorem L25_eq (es : T14) (i : Nat) (hl : es.length ≤ 8) (hty : ∀ j, (es.getD j zE).2.1.length ≤ 100) : ∀ (m j k : Nat) (sc : T3), j + m = es.length → m + 1 ≤ k → sc.length + m ≤ 50 → ∀ κ K, L25_0 k κ (i : Int) sc es (es.length : Int) (j : Int) K = K (scF es i m j sc, (es.length : Int)) := by
  intro m
  induction m with
  | zero =>
    intro j k sc hj hk hs κ K
    obtain ⟨k, rfl⟩ : ∃ k', k = k' + 1 := ⟨k - 1, by omega⟩
    have : j = es.length := by omega
    subst this
    rw [L25_0, L25_0_B]
    simp only [chk1_eq, chk2_eq, chk3_eq, chk4_eq, chk5_eq, chk6_eq, chk7_eq, chk8_eq, lt_f, Bool.false_eq_true, if_false, scF]
  | succ m ih =>
    intro j k sc hj hk hs κ K
    obtain ⟨k, rfl⟩ : ∃ k', k = k' + 1 := ⟨k - 1, by omega⟩
    have hjl : j < es.length := by omega
    have hg : decide ((es.getD j zE).2.1.length ≤ 1000000) = true := decide_eq_true (by have := hty j; omega)
    have hg2 : decide ((sc.length + [((es.getD j zE).1, (es.getD j zE).2.1)].length) * 40 ≤ 140737488355328) = true := decide_eq_true (by simp only [List.length_cons, List.length_nil]; omega)
    rw [L25_0, L25_0_B]
    simp only [chk1_eq, chk2_eq, chk3_eq, chk4_eq, chk5_eq, chk6_eq, chk7_eq, chk8_eq, Int.toNat_natCast, lt_t hjl, nn, Bool.true_and, if_true, hg, hg2, wr1 (show j < 1000 by omega)]
    show _ = K (scF es i m (j + 1) (scAdd es i sc j), (es.length : Int))
    have e1 : ((j : Int) == (i : Int)) = decide (j = i) := by
      by_cases h : j = i
      · subst h; simp
      · rw [decide_eq_false h]; simp; omega
    have e2 : decide ((j : Int) < (i : Int)) = decide (j < i) := by simp
    simp only [e1, e2]
    unfold scAdd isIn
    cases decide (j = i) with
    | true =>
      simp only [Bool.true_or, if_true]
      exact ih (j + 1) k _ (by omega) (by omega) (by simp; omega) κ K
    | false =>
      simp only [Bool.false_or, Bool.false_eq_true, if_false]
      cases decide (j < i) with
      | false =>
        simp only [Bool.false_and, Bool.false_eq_true, if_false]
        exact ih (j + 1) k _ (by omega) (by omega) (by omega) κ K
      | true =>
        simp only [Bool.true_and, if_true]
        cases (es.getD j zE).2.2.1 with
        | true =>
          simp only [Bool.not_true, Bool.false_and, Bool.false_eq_true, if_false]
          exact ih (j + 1) k _ (by omega) (by omega) (by omega) κ K
        | false =>
          simp only [Bool.not_false, Bool.true_and, if_true]
          cases ((es.getD j zE).2.2.2.2.1 == 1) with
          | true =>
            simp only [if_true]
            exact ih (j + 1) k _ (by omega) (by omega) (by simp; omega) κ K
          | false =>
            simp only [Bool.false_eq_true, if_false]
            exact ih (j + 1) k _ (by omega) (by omega) (by omega) κ K
theorem scF_pre (es : T14) (i : Nat) : ∀ (m j : Nat) (sc : T3), ∃ r, scF es i m j sc = sc ++ r ∧ r.length ≤ m
  | 0, j, sc => ⟨[], by simp [scF], by simp⟩
  | m + 1, j, sc => by
    obtain ⟨r, h, hl⟩ := scF_pre es i m (j + 1) (scAdd es i sc j)
    unfold scF
    rw [h]
    unfold scAdd
    split
    · exact ⟨((es.getD j zE).1, (es.getD j zE).2.1) :: r, by simp, by simp; omega⟩
    · exact ⟨r, rfl, by omega⟩
theorem scF_find (es : T14) (i t : Nat) (hes : es.length ≤ 4) (hv : ∀ j, j < es.length → (es.getD j zE).1 = VARS.getD j (⟨#[]⟩ : ByteArray)) (ht : t < es.length) (hin : isIn es i t = true) :
    ∀ (m j : Nat) (sc : T3), j + m = es.length → j ≤ t → (∀ r, r < sc.length → ∃ j', j' < j ∧ (sc.getD r zT).1 = VARS.getD j' (⟨#[]⟩ : ByteArray)) →
      ∃ q, q < (scF es i m j sc).length ∧ (scF es i m j sc).getD q zT = ((es.getD t zE).1, (es.getD t zE).2.1) ∧ ∀ r, r < q → (((scF es i m j sc).getD r zT).1.toList == (es.getD t zE).1.toList) = false
  | 0, j, sc, h1, h2, h3 => by omega
  | m + 1, j, sc, h1, h2, h3 => by
    by_cases e : j = t
    · subst e
      obtain ⟨r, h, _⟩ := scF_pre es i m (j + 1) (sc ++ [((es.getD j zE).1, (es.getD j zE).2.1)])
      have hs : scF es i (m + 1) j sc = (sc ++ [((es.getD j zE).1, (es.getD j zE).2.1)]) ++ r := by
        show scF es i m (j + 1) (scAdd es i sc j) = _
        unfold scAdd; rw [if_pos hin]; exact h
      refine ⟨sc.length, by rw [hs]; simp, ?_, fun q hq => ?_⟩
      · rw [hs, getD_left (by simp)]
        have := getD_right (a := sc) (b := [((es.getD j zE).1, (es.getD j zE).2.1)]) (z := zT) (j := 0)
        rw [Nat.add_zero] at this
        rw [this]; rfl
      · rw [hs, getD_left (by simp; omega), getD_left hq]
        obtain ⟨j', hj', e'⟩ := h3 q hq
        rw [e', hv j ht]
        exact vars_ne (by omega) (by omega) (by omega)
    · refine scF_find es i t hes hv ht hin m (j + 1) (scAdd es i sc j) (by omega) (by omega) (fun r hr => ?_)
      unfold scAdd at hr ⊢
      split at hr
      · rename_i hi
        rw [if_pos hi]
        rw [List.length_append] at hr
        by_cases hr' : r < sc.length
        · obtain ⟨j', hj', e'⟩ := h3 r hr'
          exact ⟨j', by omega, by rw [getD_left hr']; exact e'⟩
        · have : r = sc.length + 0 := by simp at hr; omega
          refine ⟨j, by omega, ?_⟩
          rw [this, getD_right]
          exact hv j (by omega)
      · rename_i hi
        rw [if_neg hi]
        obtain ⟨j', hj', e'⟩ := h3 r hr
        exact ⟨j', by omega, e'⟩
end Go.Proofs.Ytfdgjpeanffknaa.ChM
