/- CodecThings as a function over lists and numbers: it is true of all that a machine can hold. Condition: numbers are of 64 bits. -/
import Derived.Test.YtkfphlmbdppbfaaCoTOut
namespace Go.Proofs.Ytkfphlmbdppbfaa.CoT
open Go Go.Proofs.Ytkfphlmbdppbfaa.Vm
set_option linter.unusedVariables false
set_option linter.unusedSimpArgs false
set_option maxRecDepth 100000
theorem tm {x : Int} (hx : 0 ≤ x) (m : Int) : Int.tmod x m = x % m := Int.tmod_eq_emod_of_nonneg hx
theorem abc_ok (x : Int) : (true && (decide ((0 : Int) ≤ x % 3) && decide (x % 3 < (([(⟨#[65]⟩ : ByteArray), (⟨#[66]⟩ : ByteArray), (⟨#[67]⟩ : ByteArray)] : List ByteArray).length : Int)))) = true ∧ (([(⟨#[65]⟩ : ByteArray), (⟨#[66]⟩ : ByteArray), (⟨#[67]⟩ : ByteArray)] : List ByteArray).getD (x % 3).toNat (⟨#[]⟩ : ByteArray)).size ≤ 100 := by
  rcases (show x % 3 = 0 ∨ x % 3 = 1 ∨ x % 3 = 2 by omega) with h | h | h <;> rw [h] <;> decide
theorem klm_ok (x : Int) : (true && (decide ((0 : Int) ≤ x % 3) && decide (x % 3 < (([(⟨#[107]⟩ : ByteArray), (⟨#[108]⟩ : ByteArray), (⟨#[109]⟩ : ByteArray)] : List ByteArray).length : Int)))) = true ∧ (([(⟨#[107]⟩ : ByteArray), (⟨#[108]⟩ : ByteArray), (⟨#[109]⟩ : ByteArray)] : List ByteArray).getD (x % 3).toNat (⟨#[]⟩ : ByteArray)).size ≤ 100 := by
  rcases (show x % 3 = 0 ∨ x % 3 = 1 ∨ x % 3 = 2 by omega) with h | h | h <;> rw [h] <;> decide
structure XOk (x : T13) : Prop where
  ty : x.1.size ≤ 100
  key : x.2.1.size ≤ 100
  len : x.2.2.2.2.length ≤ 3
  vals : ∀ i, i < x.2.2.2.2.length → VOk (x.2.2.2.2.getD i zV)
theorem v2 {a b : T2} (ha : VOk a) (hb : VOk b) : ∀ i, i < [a, b].length → VOk ([a, b].getD i zV)
  | 0, _ => ha
  | 1, _ => hb
  | i + 2, h => by simp at h; omega
theorem v3 {a b c : T2} (ha : VOk a) (hb : VOk b) (hc : VOk c) : ∀ i, i < [a, b, c].length → VOk ([a, b, c].getD i zV)
  | 0, _ => ha
  | 1, _ => hb
  | 2, _ => hc
  | i + 3, h => by simp at h; omega
theorem xok3 {A K : ByteArray} {t : Int} (hA : A.size ≤ 100) (hK : K.size ≤ 100) {a b c : T2} (va : VOk a) (vb : VOk b) (vc : VOk c) : XOk (A, (K, (t, ((0 : Int), [a, b, c])))) := ⟨hA, hK, Nat.le_refl 3, v3 va vb vc⟩
theorem xok2 {A K : ByteArray} {t : Int} (hA : A.size ≤ 100) (hK : K.size ≤ 100) {a b : T2} (va : VOk a) (vb : VOk b) : XOk (A, (K, (t, ((0 : Int), [a, b])))) := ⟨hA, hK, Nat.le_succ 2, v2 va vb⟩
theorem m4 (n : Int) : is64 (n % 4) := by unfold is64; omega
theorem F30_eq (e : T13) (k : Nat) (hk : 1 ≤ k) : ∃ x : T13, XOk x ∧ ∀ κ, F30 k e κ = κ x := by
  obtain ⟨k, rfl⟩ : ∃ k', k = k' + 1 := ⟨k - 1, by omega⟩
  have e1 : Int.tmod (bits .and .i64 e.2.2.2.1 (255 : Int)) (3 : Int) = (e.2.2.2.1 % 256) % 3 := by rw [and255, tm (by omega)]
  have e2 : Int.tmod (e.2.1.size : Int) (3 : Int) = (e.2.1.size : Int) % 3 := tm (by omega) 3
  obtain ⟨g1, s1⟩ := abc_ok (e.2.2.2.1 % 256)
  obtain ⟨g2, s2⟩ := klm_ok (e.2.1.size : Int)
  have su : (⟨#[117]⟩ : ByteArray).size ≤ 64 := by decide
  have sv : (⟨#[118]⟩ : ByteArray).size ≤ 64 := by decide
  have z64 : is64 0 := ⟨by omega, by omega⟩
  cases hl : decide ((e.2.2.2.2.length : Int) > 0) with
  | false =>
    cases hc : ((e.2.2.2.1 % 256) % 3 == 2) with
    | true =>
      refine ⟨(([(⟨#[65]⟩ : ByteArray), (⟨#[66]⟩ : ByteArray), (⟨#[67]⟩ : ByteArray)] : List ByteArray).getD ((e.2.2.2.1 % 256) % 3).toNat (⟨#[]⟩ : ByteArray), (([(⟨#[107]⟩ : ByteArray), (⟨#[108]⟩ : ByteArray), (⟨#[109]⟩ : ByteArray)] : List ByteArray).getD ((e.2.1.size : Int) % 3).toNat (⟨#[]⟩ : ByteArray), (bits .and .i64 e.2.2.1 (15 : Int), ((0 : Int), _)))), xok3 s1 s2 (VOk.str _ su) (VOk.int 0 z64) (VOk.tru (decide ((bits .and .i64 e.2.2.1 (64 : Int)) > (0 : Int)))), fun κ => ?_⟩
      rw [F30, F30_B]
      simp only [chk1_eq, chk2_eq, chk3_eq, chk4_eq, chk5_eq, chk6_eq, chk7_eq, chk8_eq, e1, e2, hl, hc, g1, g2, if_true, Bool.false_eq_true, if_false, Bool.and_self]
    | false =>
      refine ⟨(([(⟨#[65]⟩ : ByteArray), (⟨#[66]⟩ : ByteArray), (⟨#[67]⟩ : ByteArray)] : List ByteArray).getD ((e.2.2.2.1 % 256) % 3).toNat (⟨#[]⟩ : ByteArray), (([(⟨#[107]⟩ : ByteArray), (⟨#[108]⟩ : ByteArray), (⟨#[109]⟩ : ByteArray)] : List ByteArray).getD ((e.2.1.size : Int) % 3).toNat (⟨#[]⟩ : ByteArray), (bits .and .i64 e.2.2.1 (15 : Int), ((0 : Int), _)))), xok2 s1 s2 (VOk.int 0 z64) (VOk.str _ su), fun κ => ?_⟩
      rw [F30, F30_B]
      simp only [chk1_eq, chk2_eq, chk3_eq, chk4_eq, chk5_eq, chk6_eq, chk7_eq, chk8_eq, e1, e2, hl, hc, g1, g2, if_true, Bool.false_eq_true, if_false, Bool.and_self]
  | true =>
    have q : (true && (true && decide ((0 : Int) < (e.2.2.2.2.length : Int)))) = true := hl
    cases hf : (e.2.2.2.2.getD (0 : Int).toNat zV).2.2.2 with
    | true =>
      cases hc : ((e.2.2.2.1 % 256) % 3 == 2) with
      | true =>
        refine ⟨(([(⟨#[65]⟩ : ByteArray), (⟨#[66]⟩ : ByteArray), (⟨#[67]⟩ : ByteArray)] : List ByteArray).getD ((e.2.2.2.1 % 256) % 3).toNat (⟨#[]⟩ : ByteArray), (([(⟨#[107]⟩ : ByteArray), (⟨#[108]⟩ : ByteArray), (⟨#[109]⟩ : ByteArray)] : List ByteArray).getD ((e.2.1.size : Int) % 3).toNat (⟨#[]⟩ : ByteArray), (bits .and .i64 e.2.2.1 (15 : Int), ((0 : Int), _)))), xok3 s1 s2 (VOk.str _ sv) (VOk.int ((e.2.2.2.2.getD (0 : Int).toNat zV).2.1 % 4) (m4 _)) (VOk.tru (decide ((bits .and .i64 e.2.2.1 (64 : Int)) > (0 : Int)))), fun κ => ?_⟩
        rw [F30, F30_B]
        simp only [chk1_eq, chk2_eq, chk3_eq, chk4_eq, chk5_eq, chk6_eq, chk7_eq, chk8_eq, e1, e2, and3, hl, q, hf, hc, g1, g2, if_true, Bool.false_eq_true, if_false, Bool.and_self]
      | false =>
        refine ⟨(([(⟨#[65]⟩ : ByteArray), (⟨#[66]⟩ : ByteArray), (⟨#[67]⟩ : ByteArray)] : List ByteArray).getD ((e.2.2.2.1 % 256) % 3).toNat (⟨#[]⟩ : ByteArray), (([(⟨#[107]⟩ : ByteArray), (⟨#[108]⟩ : ByteArray), (⟨#[109]⟩ : ByteArray)] : List ByteArray).getD ((e.2.1.size : Int) % 3).toNat (⟨#[]⟩ : ByteArray), (bits .and .i64 e.2.2.1 (15 : Int), ((0 : Int), _)))), xok2 s1 s2 (VOk.int ((e.2.2.2.2.getD (0 : Int).toNat zV).2.1 % 4) (m4 _)) (VOk.str _ sv), fun κ => ?_⟩
        rw [F30, F30_B]
        simp only [chk1_eq, chk2_eq, chk3_eq, chk4_eq, chk5_eq, chk6_eq, chk7_eq, chk8_eq, e1, e2, and3, hl, q, hf, hc, g1, g2, if_true, Bool.false_eq_true, if_false, Bool.and_self]
    | false =>
      cases hc : ((e.2.2.2.1 % 256) % 3 == 2) with
      | true =>
        refine ⟨(([(⟨#[65]⟩ : ByteArray), (⟨#[66]⟩ : ByteArray), (⟨#[67]⟩ : ByteArray)] : List ByteArray).getD ((e.2.2.2.1 % 256) % 3).toNat (⟨#[]⟩ : ByteArray), (([(⟨#[107]⟩ : ByteArray), (⟨#[108]⟩ : ByteArray), (⟨#[109]⟩ : ByteArray)] : List ByteArray).getD ((e.2.1.size : Int) % 3).toNat (⟨#[]⟩ : ByteArray), (bits .and .i64 e.2.2.1 (15 : Int), ((0 : Int), _)))), xok3 s1 s2 (VOk.str _ su) (VOk.int ((e.2.2.2.2.getD (0 : Int).toNat zV).2.1 % 4) (m4 _)) (VOk.tru (decide ((bits .and .i64 e.2.2.1 (64 : Int)) > (0 : Int)))), fun κ => ?_⟩
        rw [F30, F30_B]
        simp only [chk1_eq, chk2_eq, chk3_eq, chk4_eq, chk5_eq, chk6_eq, chk7_eq, chk8_eq, e1, e2, and3, hl, q, hf, hc, g1, g2, if_true, Bool.false_eq_true, if_false, Bool.and_self]
      | false =>
        refine ⟨(([(⟨#[65]⟩ : ByteArray), (⟨#[66]⟩ : ByteArray), (⟨#[67]⟩ : ByteArray)] : List ByteArray).getD ((e.2.2.2.1 % 256) % 3).toNat (⟨#[]⟩ : ByteArray), (([(⟨#[107]⟩ : ByteArray), (⟨#[108]⟩ : ByteArray), (⟨#[109]⟩ : ByteArray)] : List ByteArray).getD ((e.2.1.size : Int) % 3).toNat (⟨#[]⟩ : ByteArray), (bits .and .i64 e.2.2.1 (15 : Int), ((0 : Int), _)))), xok2 s1 s2 (VOk.int ((e.2.2.2.2.getD (0 : Int).toNat zV).2.1 % 4) (m4 _)) (VOk.str _ su), fun κ => ?_⟩
        rw [F30, F30_B]
        simp only [chk1_eq, chk2_eq, chk3_eq, chk4_eq, chk5_eq, chk6_eq, chk7_eq, chk8_eq, e1, e2, and3, hl, q, hf, hc, g1, g2, if_true, Bool.false_eq_true, if_false, Bool.and_self]
theorem getD_leftE {a b : T14} {j : Nat} (h : j < a.length) : (a ++ b).getD j zE = a.getD j zE := by
  rw [List.getD_eq_getElem?_getD, List.getD_eq_getElem?_getD, List.getElem?_append_left h]
theorem getD_lastE {a : T14} {e : T13} : (a ++ [e]).getD a.length zE = e := by
  rw [List.getD_eq_getElem?_getD, List.getElem?_append_right (Nat.le_refl _), Nat.sub_self]; rfl
theorem encEs_app (es : T14) (e : T13) : ∀ m i, i + m = es.length → encEs (es ++ [e]) (m + 1) i = encEs es m i ++ encE e
  | 0, i, hi => by
    have : i = es.length := by omega
    subst this
    simp only [encEs, getD_lastE, List.append_nil, List.nil_append]
  | m + 1, i, hi => by
    have ih := encEs_app es e m (i + 1) (by omega)
    show encE ((es ++ [e]).getD i zE) ++ encEs (es ++ [e]) (m + 1) (i + 1) = (encE (es.getD i zE) ++ encEs es m (i + 1)) ++ encE e
    rw [ih, getD_leftE (by omega), List.append_assoc]
def InOk (l : T14) : Prop := ∀ i, i < l.length → is64 (l.getD i zE).2.2.1 ∧ is64 (l.getD i zE).2.2.2.1
theorem L5_eq (l : T14) (hin : InOk l) (N : Nat) (hN : N = min l.length 10) (q4 : Int) (q5 : ByteArray) (q6 : Int) (q7 : ByteArray) (q8 q9 : Int) (q10 : List (Int × Int)) : ∀ (m i k : Nat) (es : T14), i + m = N → es.length = i → AllE es → m + 40 ≤ k →
    ∃ es' : T14, es'.length ≤ 10 ∧ AllE es' ∧ ∀ κ K, L5_0 k κ l es (strOf (encEs es es.length 0)) (i : Int) q4 q5 q6 q7 q8 q9 q10 K = K (es', (strOf (encEs es' es'.length 0), (N : Int))) := by
  intro m
  induction m with
  | zero =>
    intro i k es hi hes ha hk
    obtain ⟨k, rfl⟩ : ∃ k', k = k' + 1 := ⟨k - 1, by omega⟩
    have : i = N := by omega
    subst this
    refine ⟨es, by omega, ha, fun κ K => ?_⟩
    rw [L5_0, L5_0_B]
    simp only [chk1_eq, chk2_eq, chk3_eq, chk4_eq, chk5_eq, chk6_eq, chk7_eq, chk8_eq]
    by_cases h : i < l.length
    · rw [if_pos (lt_t h), if_neg (by simp; omega)]
    · rw [if_neg (by simp; omega), if_neg (by simp)]
  | succ m ih =>
    intro i k es hi hes ha hk
    obtain ⟨k, rfl⟩ : ∃ k', k = k' + 1 := ⟨k - 1, by omega⟩
    have hil : i < l.length := by omega
    obtain ⟨x, hx, fx⟩ := F30_eq (l.getD i zE) k (by omega)
    obtain ⟨i1, i2⟩ := hin i hil
    have he : EOk (x.1, (x.2.1, ((l.getD i zE).2.2.1, ((l.getD i zE).2.2.2.1, x.2.2.2.2)))) := ⟨hx.ty, hx.key, i1, i2, hx.len, hx.vals⟩
    have ha' : AllE (es ++ [(x.1, (x.2.1, ((l.getD i zE).2.2.1, ((l.getD i zE).2.2.2.1, x.2.2.2.2))))]) := fun j hj => by
      rw [List.length_append] at hj
      by_cases hj' : j < es.length
      · rw [getD_leftE hj']; exact ha j hj'
      · have : j = es.length := by simp at hj; omega
        rw [this, getD_lastE]; exact he
    obtain ⟨es', h1, h2, h3⟩ := ih (i + 1) k _ (by omega) (by simp; omega) ha' (by omega)
    refine ⟨es', h1, h2, fun κ K => ?_⟩
    have hsz := encEs_len es ha es.length 0 (by omega)
    have hsz2 := encE_len he
    have h3 := h3 κ K
    rw [List.length_append, show es.length + [(x.1, (x.2.1, ((l.getD i zE).2.2.1, ((l.getD i zE).2.2.2.1, x.2.2.2.2))))].length = es.length + 1 from rfl, encEs_app es _ es.length 0 (by omega)] at h3
    rw [L5_0, L5_0_B]
    simp only [chk1_eq, chk2_eq, chk3_eq, chk4_eq, chk5_eq, chk6_eq, chk7_eq, chk8_eq, Int.toNat_natCast]
    rw [if_pos (lt_t hil), if_pos (by simp; omega), if_pos (rng hil)]
    show F30 k (l.getD i zE) _ = _
    rw [fx, if_pos (rng hil), if_pos (rng hil), if_pos (decide_eq_true (by simp only [List.length_cons, List.length_nil]; omega)), F33_eq he k (by omega), if_pos (decide_eq_true (by rw [str_size, str_size]; omega)), str_app, wr1 (by omega)]
    exact h3
theorem F27_true (κ : Bool → Option Res) : F27 199 κ = κ true := by kernel_rfl
theorem F28_eq (k : Nat) (hk : 1 ≤ k) (l : List Int) (hl : l.length ≤ 1000000) (κ : List Int × List Int → Option Res) : F28 k l κ = κ (l, l) := by
  obtain ⟨k, rfl⟩ : ∃ k', k = k' + 1 := ⟨k - 1, by omega⟩
  rw [F28, F28_B]
  simp only [chk1_eq, chk2_eq, chk3_eq, chk4_eq, chk5_eq, chk6_eq, chk7_eq, chk8_eq, Bool.false_eq_true, if_false, Bool.true_and]
  rw [if_pos (decide_eq_true hl)]
def OIn (o : T11) : Prop := is64 o.2.2.1 ∧ is64 o.2.2.2.2.1 ∧ is64 o.2.2.2.2.2.1 ∧ ∀ i, i < o.2.2.2.2.2.2.length → is64 (o.2.2.2.2.2.2.getD i zP).1 ∧ is64 (o.2.2.2.2.2.2.getD i zP).2
theorem imin_nat (a b : Nat) : imin (a : Int) (b : Int) = ((min a b : Nat) : Int) := by unfold imin; split <;> omega
theorem F5_true (l : T14) (hin : InOk l) (o : T11) (ho : OIn o) (κ : Bool → Option Res) : F5 200 l o κ = κ true := by
  obtain ⟨es, h10, ha, hL⟩ := L5_eq l hin (min l.length 10) rfl o.1 o.2.1 o.2.2.1 o.2.2.2.1 o.2.2.2.2.1 o.2.2.2.2.2.1 o.2.2.2.2.2.2 (min l.length 10) 0 199 [] (by omega) rfl (fun i hi => by simp at hi) (by omega)
  have e0 : strOf (encEs [] ([] : T14).length 0) = (⟨#[]⟩ : ByteArray) := rfl
  have z0 : ((0 : Nat) : Int) = 0 := rfl
  rw [e0, z0] at hL
  have i20 : ∀ n : Nat, imin (n : Int) (20 : Int) = ((min n 20 : Nat) : Int) := fun n => imin_nat n 20
  have i5 : ∀ n : Nat, imin (n : Int) (5 : Int) = ((min n 5 : Nat) : Int) := fun n => imin_nat n 5
  have hz : (0 : Int).toNat = 0 := rfl
  obtain ⟨P, eP⟩ : ∃ P : T11, (bits .and .i64 o.1 (65535 : Int), (o.2.1.extract 0 (min o.2.1.size 20), (o.2.2.1, (o.2.2.2.1.extract 0 (min o.2.2.2.1.size 20), (o.2.2.2.2.1, (o.2.2.2.2.2.1, (o.2.2.2.2.2.2.take (min o.2.2.2.2.2.2.length 5)).drop 0)))))) = P := ⟨_, rfl⟩
  have hP : OOk P := by
    rw [← eP]
    obtain ⟨o1, o2, o3, o4⟩ := ho
    refine ⟨?_, ?_, o1, ?_, o2, o3, ?_, fun i hi => ?_⟩
    · show 0 ≤ bits .and .i64 o.1 (65535 : Int) ∧ bits .and .i64 o.1 (65535 : Int) < 65536
      rw [and65535]; omega
    · show (o.2.1.extract 0 (min o.2.1.size 20)).size ≤ 20
      rw [ByteArray.size_extract]; omega
    · show (o.2.2.2.1.extract 0 (min o.2.2.2.1.size 20)).size ≤ 20
      rw [ByteArray.size_extract]; omega
    · show ((o.2.2.2.2.2.2.take (min o.2.2.2.2.2.2.length 5)).drop 0).length ≤ 5
      simp; omega
    · have hi : i < ((o.2.2.2.2.2.2.take (min o.2.2.2.2.2.2.length 5)).drop 0).length := hi
      rw [List.drop_zero, List.length_take] at hi
      have e : ((o.2.2.2.2.2.2.take (min o.2.2.2.2.2.2.length 5)).drop 0).getD i zP = o.2.2.2.2.2.2.getD i zP := by
        rw [List.drop_zero, List.getD_eq_getElem?_getD, List.getD_eq_getElem?_getD, List.getElem?_take, if_pos (by omega)]
      show is64 (((o.2.2.2.2.2.2.take (min o.2.2.2.2.2.2.length 5)).drop 0).getD i zP).1 ∧ is64 (((o.2.2.2.2.2.2.take (min o.2.2.2.2.2.2.length 5)).drop 0).getD i zP).2
      rw [e]; exact o4 i (by omega)
  have hlenO : (encO P).length ≤ 1000 := by
    have t1 := encT_len P.2.1 (by have := hP.query; omega)
    have t2 := encT_len P.2.2.2.1 (by have := hP.key; omega)
    have h0 := enc_len 9 P.1.toNat
    have h3 := enc_len 9 (zig P.2.2.1)
    have h4 := enc_len 9 (zig P.2.2.2.2.1)
    have h5 := enc_len 9 (zig P.2.2.2.2.2.1)
    have h6 := encPl_len _ hP.pairs
    have := hP.query
    have := hP.key
    unfold encO; simp only [List.length_append]; omega
  have hlenE := encEs_len es ha es.length 0 (by omega)
  have henc := enc_len 9 es.length
  have g20 : ∀ n : Nat, (true && (decide ((0 : Int) ≤ ((min n 20 : Nat) : Int)) && decide (((min n 20 : Nat) : Int) ≤ (n : Int)))) = true := fun n => by simp; omega
  have g5 : ∀ n : Nat, (true && (decide ((0 : Int) ≤ ((min n 5 : Nat) : Int)) && decide (((min n 5 : Nat) : Int) ≤ (n : Int)))) = true := fun n => by simp; omega
  rw [F5, F5_B]
  simp only [chk1_eq, chk2_eq, chk3_eq, chk4_eq, chk5_eq, chk6_eq, chk7_eq, chk8_eq, hL, i20, i5, Int.toNat_natCast, hz, eP, g20, g5, if_true]
  rw [F31_eq es h10 ha 199 (by omega), F32_eq es h10 ha 199 (by omega), F34_eq hP 199 (by omega)]
  simp only [F28_eq 199 (by omega) (encO P) (by omega), F21_eq 199 (by omega) (encO P) (by omega), F35_eq hP 199 (by omega), F27_true, if_true]
  rw [F31_eq es h10 ha 199 (by omega), w64 (by omega), F14_nat _ 199 (by omega) (by omega), if_pos (decide_eq_true (by rw [str_size, str_size]; omega)), str_app]
  show (if ((strOf (encL es)).toList == (strOf (encL es)).toList) = true then _ else _) = _
  rw [if_pos (beq_self_eq_true _), if_pos (by rfl), F36_eq es h10 ha 199 (by omega)]
  simp only [if_true]
  rw [F37_eq hP 199 (by omega)]
  simp only [beq_self_eq_true, if_true]
  rw [F26_eq 199 (by omega)]
  simp only [beq_self_eq_true, if_true]
  rw [F29_eq 199 (by omega)]
  simp only [List.length_nil]
  rw [if_pos (by rfl), F38_eq hP 199 (by omega)]
end Go.Proofs.Ytkfphlmbdppbfaa.CoT
