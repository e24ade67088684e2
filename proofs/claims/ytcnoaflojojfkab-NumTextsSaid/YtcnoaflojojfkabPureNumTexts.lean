/- The pure side of 'NumTexts': numbers' texts, there and back; other texts are none's; for every number and every text. -/
import Derived.Test.YtcnoaflojojfkabPNumTextsx3
import Derived.Laws.BytesArg
import Derived.Lib.Strings
namespace Go.Proofs.Ytcnoaflojojfkab.Pure
open Go.RowKit Go.Proofs.Ytcnoaflojojfkab.PNumTexts Go.Proofs.YtcnoaflojojfkabW.PrintWords Go.Proofs.YtcnoaflojojfkabW.PrintLast Go.Proofs.YtcnoaflojojfkabW.PrintMore

theorem wrap_small {x : Int} (h0 : -9223372036854775808 ≤ x) (h1 : x ≤ 9223372036854775807) : wrap64 x = x := by
  unfold wrap64
  omega
theorem wrapu_small {x : Int} (h0 : 0 ≤ x) (h1 : x < 18446744073709551616) : IntKind.u64.wrap x = x := by
  rw [IntKind.wrap_u64]; omega
/-- of 64 bits -/
abbrev Is64 (x : Int) : Prop := -9223372036854775808 ≤ x ∧ x ≤ 9223372036854775807

/-- a number's digits, the last one first; of 0 none -/
def rdig (u : Nat) : List Int := if u = 0 then [] else ((48 + u % 10 : Nat) : Int) :: rdig (u / 10)
termination_by u
decreasing_by omega
theorem rdig_zero : rdig 0 = [] := by rw [rdig]; rfl
theorem rdig_pos {u : Nat} (h : u ≠ 0) : rdig u = ((48 + u % 10 : Nat) : Int) :: rdig (u / 10) := by rw [rdig, if_neg h]
theorem rdig_len (k : Nat) : ∀ u : Nat, u < 10 ^ k → (rdig u).length ≤ k := by
  induction k with
  | zero => intro u h; obtain rfl : u = 0 := by omega
            rw [rdig_zero]; exact Nat.le_refl _
  | succ k ih =>
    intro u h
    by_cases z : u = 0
    · rw [z, rdig_zero]; exact Nat.zero_le _
    · rw [rdig_pos z]
      have := ih (u / 10) (by rw [Nat.pow_succ] at h; omega)
      simp only [List.length_cons]; omega
theorem rdig_mem (u : Nat) : ∀ c ∈ rdig u, 48 ≤ c ∧ c ≤ 57 := by
  induction u using Nat.strongRecOn with
  | _ u ih =>
    intro c hc
    by_cases z : u = 0
    · rw [z, rdig_zero] at hc; cases hc
    · rw [rdig_pos z] at hc
      rcases List.mem_cons.1 hc with e | e
      · omega
      · exact ih (u / 10) (by omega) c e
/-- a number's digits -/
def dec (u : Nat) : List Int := if u = 0 then [48] else (rdig u).reverse
/-- a number's text -/
def sgn (n : Int) : List Int := if n < 0 then 45 :: dec n.natAbs else dec n.natAbs
theorem dec_mem (u : Nat) : ∀ c ∈ dec u, 48 ≤ c ∧ c ≤ 57 := by
  intro c hc
  unfold dec at hc
  split at hc
  · simp at hc; omega
  · exact rdig_mem u c (by simpa using hc)
theorem dec_len {u : Nat} (h : u ≤ 9223372036854775808) : 1 ≤ (dec u).length ∧ (dec u).length ≤ 19 := by
  unfold dec
  split
  · simp
  · rename_i z
    have := rdig_len 19 u (by omega)
    have h2 : (rdig u).length ≠ 0 := by rw [rdig_pos z]; simp
    simp only [List.length_reverse]; omega
theorem dec_small {u : Nat} (h : u < 10) : dec u = [((48 + u : Nat) : Int)] := by
  unfold dec
  by_cases z : u = 0
  · rw [if_pos z, z]; rfl
  · rw [if_neg z, rdig_pos z, show u / 10 = 0 by omega, rdig_zero, Nat.mod_eq_of_lt h]; rfl
theorem dec_big {u : Nat} (h : 10 ≤ u) : dec u = dec (u / 10) ++ [((48 + u % 10 : Nat) : Int)] := by
  unfold dec
  rw [if_neg (by omega), if_neg (by omega), rdig_pos (by omega)]; simp
/-- the number of digits -/
def val (l : List Int) : Int := l.foldl (fun a c => a * 10 + (c - 48)) 0
theorem val_snoc (l : List Int) (c : Int) : val (l ++ [c]) = val l * 10 + (c - 48) := by simp [val]
theorem val_rdig (u : Nat) : val (rdig u).reverse = u := by
  induction u using Nat.strongRecOn with
  | _ u ih =>
    by_cases z : u = 0
    · rw [z, rdig_zero]; rfl
    · rw [rdig_pos z, List.reverse_cons, val_snoc, ih (u / 10) (by omega)]; omega
theorem val_dec (u : Nat) : val (dec u) = u := by
  unfold dec
  split
  · rename_i z; rw [z]; rfl
  · exact val_rdig u
theorem fold_ge (l : List Int) : ∀ a : Int, 0 ≤ a → (∀ c ∈ l, 48 ≤ c) → a ≤ l.foldl (fun a c => a * 10 + (c - 48)) a := by
  induction l with
  | nil => intro a _ _; exact Int.le_refl _
  | cons c l ih =>
    intro a ha hc
    have h1 := hc c (by simp)
    have := ih (a * 10 + (c - 48)) (by omega) (fun d hd => hc d (by simp [hd]))
    simp only [List.foldl_cons]; omega
theorem val_take (l : List Int) (i : Nat) (h : ∀ c ∈ l, 48 ≤ c) : 0 ≤ val (l.take i) ∧ val (l.take i) ≤ val l := by
  have h0 : 0 ≤ val (l.take i) := fold_ge (l.take i) 0 (by omega) (fun c hc => h c (List.mem_of_mem_take hc))
  refine ⟨h0, ?_⟩
  have e : val l = (l.drop i).foldl (fun a c => a * 10 + (c - 48)) (val (l.take i)) := by
    unfold val; rw [← List.foldl_append, List.take_append_drop]
  rw [e]
  exact fold_ge _ _ h0 (fun c hc => h c (List.mem_of_mem_drop hc))

/-! num.Digits -/
theorem rev_loop (m : Nat) : ∀ (k : Nat) (A M B : List Int), M.length ≤ m → A.length + M.length + B.length ≤ 1000 → m < k →
    num_Digits.l1 k (A ++ M ++ B) (A.length : Int) ((A.length : Int) + M.length - 1) = some (strOfNums (A ++ M.reverse ++ B)) := by
  induction m using Nat.strongRecOn with
  | _ m ih =>
    intro k A M B hM hl hk
    obtain ⟨k, rfl⟩ : ∃ j, k = j + 1 := ⟨k - 1, by omega⟩
    simp only [num_Digits.l1]
    match hm : M, hM with
    | [], _ => rw [if_neg (by simp; omega)]; simp
    | [x], _ => rw [if_neg (by simp)]; simp
    | x :: y :: R, hM =>
      obtain ⟨N, b, hN⟩ : ∃ N b, y :: R = N ++ [b] := ⟨(y :: R).dropLast, (y :: R).getLast (by simp), (List.dropLast_concat_getLast (by simp)).symm⟩
      have hNl : (y :: R).length = N.length + 1 := by rw [hN]; simp
      simp only [List.length_cons] at hM hNl hl ⊢
      rw [hN]
      have e1 : A ++ x :: (N ++ [b]) ++ B = A ++ (x :: (N ++ (b :: B))) := by simp
      have hi : (A.length : Int).toNat = A.length := by omega
      have hj : ((A.length : Int) + (R.length + 1 + 1 : Nat) - 1).toNat = A.length + (N.length + 1) := by omega
      have hlen : ((A ++ x :: (N ++ [b]) ++ B).length : Int) = A.length + N.length + 2 + B.length := by simp; omega
      rw [if_pos (by omega), if_pos (by omega), if_pos (by omega), if_pos (by omega), if_pos (by omega)]
      rw [wrap_small (by omega) (by omega), wrap_small (by omega) (by omega)]
      have r1 : rd (A ++ x :: (N ++ [b]) ++ B) ((A.length : Int) + (R.length + 1 + 1 : Nat) - 1) = b := by
        unfold rd; rw [hj, e1, List.getD_eq_getElem?_getD, List.getElem?_append_right (by omega), Nat.add_sub_cancel_left, List.getElem?_cons_succ, List.getElem?_append_right (by omega)]; simp
      have r2 : rd (A ++ x :: (N ++ [b]) ++ B) (A.length : Int) = x := by
        unfold rd; rw [hi, e1, List.getD_eq_getElem?_getD, List.getElem?_append_right (by omega)]; simp
      rw [r1, r2, hi, hj, e1]
      have s1 : (A ++ x :: (N ++ b :: B)).set A.length b = A ++ b :: (N ++ b :: B) := by
        rw [List.set_append_right _ _ (by omega)]; simp
      have s2 : (A ++ b :: (N ++ b :: B)).set (A.length + (N.length + 1)) x = (A ++ [b]) ++ N ++ (x :: B) := by
        rw [List.set_append_right _ _ (by omega), Nat.add_sub_cancel_left, List.set_cons_succ, List.set_append_right _ _ (by omega)]; simp
      rw [s1, s2]
      have := ih (m - 1) (by omega) k (A ++ [b]) N (x :: B) (by omega) (by simp; omega) (by omega)
      have c1 : ((A ++ [b]).length : Int) = (A.length : Int) + 1 := by simp
      rw [c1] at this
      have c2 : (A.length : Int) + 1 + N.length - 1 = (A.length : Int) + (R.length + 1 + 1 : Nat) - 1 - 1 := by omega
      rw [c2] at this
      rw [this]; simp

theorem dig_j2 (k : Nat) (l : List Int) (hl : l.length ≤ 30) (hk : 40 < k) : num_Digits.j2 k l = some (strOfNums l.reverse) := by
  obtain ⟨k, rfl⟩ : ∃ j, k = j + 1 := ⟨k - 1, by omega⟩
  simp only [num_Digits.j2]
  rw [wrap_small (by omega) (by omega)]
  have := rev_loop l.length k [] l [] (by omega) (by simp; omega) (by omega)
  simpa using this

theorem dig_l0 (m : Nat) : ∀ (k : Nat) (u : Nat) (n : Int) (x : List Int), (rdig u).length ≤ m → x.length + m ≤ 22 → u ≤ 9223372036854775808 → m + 50 < k →
    num_Digits.l0 k n x u = some (strOfNums (if n < 0 then 45 :: (x ++ rdig u).reverse else (x ++ rdig u).reverse)) := by
  induction m with
  | zero =>
    intro k u n x hm hx hu hk
    obtain ⟨k, rfl⟩ : ∃ j, k = j + 1 := ⟨k - 1, by omega⟩
    have z : u = 0 := by
      by_cases z : u = 0
      · exact z
      · rw [rdig_pos z] at hm; simp at hm
    subst z
    simp only [num_Digits.l0]
    rw [if_neg (by omega), rdig_zero]
    by_cases c : n < 0
    · rw [if_pos c, if_pos (by omega), if_pos c, dig_j2 k _ (by simp; omega) (by omega)]; simp
    · rw [if_neg c, if_neg c, dig_j2 k _ (by omega) (by omega)]; simp
  | succ m ih =>
    intro k u n x hm hx hu hk
    by_cases z : u = 0
    · subst z
      obtain ⟨k, rfl⟩ : ∃ j, k = j + 1 := ⟨k - 1, by omega⟩
      simp only [num_Digits.l0]
      rw [if_neg (by omega), rdig_zero]
      by_cases c : n < 0
      · rw [if_pos c, if_pos (by omega), if_pos c, dig_j2 k _ (by simp; omega) (by omega)]; simp
      · rw [if_neg c, if_neg c, dig_j2 k _ (by omega) (by omega)]; simp
    · obtain ⟨k, rfl⟩ : ∃ j, k = j + 1 := ⟨k - 1, by omega⟩
      have hr := rdig_pos z
      simp only [num_Digits.l0]
      rw [if_pos (by omega), if_pos (by omega), Int.tmod_eq_emod_of_nonneg (by omega), Int.tdiv_eq_ediv_of_nonneg (by omega)]
      have e1 : IntKind.u64.wrap (48 + (u : Int) % 10) % 256 = ((48 + u % 10 : Nat) : Int) := by rw [wrapu_small (by omega) (by omega)]; omega
      have e2 : IntKind.u64.wrap ((u : Int) / 10) = ((u / 10 : Nat) : Int) := by rw [wrapu_small (by omega) (by omega)]; omega
      rw [e1, e2, ih k (u / 10) n _ (by rw [hr] at hm; simp at hm; omega) (by simp; omega) (by omega) (by omega), hr]
      simp

theorem digits_of (k : Nat) (n : Int) (hn : Is64 n) (hk : 100 < k) : num_Digits.f k n = some (strOfNums (sgn n)) := by
  unfold num_Digits.f
  by_cases z : n = 0
  · rw [if_pos z, z]; rfl
  · rw [if_neg z]
    obtain ⟨k, rfl⟩ : ∃ j, k = j + 1 := ⟨k - 1, by omega⟩
    have hd : dec n.natAbs = (rdig n.natAbs).reverse := by unfold dec; rw [if_neg (by omega)]
    by_cases c : n < 0
    · rw [if_pos c]
      have e : IntKind.u64.wrap (-(IntKind.u64.wrap n)) = (n.natAbs : Int) := by rw [IntKind.wrap_u64, IntKind.wrap_u64]; omega
      simp only [num_Digits.j0]
      rw [e, dig_l0 20 k n.natAbs n [] (rdig_len 20 _ (by omega)) (by simp) (by omega) (by omega)]
      unfold sgn; rw [if_pos c, if_pos c, hd]; simp
    · rw [if_neg c]
      have e : IntKind.u64.wrap n = (n.natAbs : Int) := by rw [IntKind.wrap_u64]; omega
      simp only [num_Digits.j0]
      rw [e, dig_l0 20 k n.natAbs n [] (rdig_len 20 _ (by omega)) (by simp) (by omega) (by omega)]
      unfold sgn; rw [if_neg c, if_neg c, hd]; simp

/-! the reference's -/
theorem strs_append (a b : List Int) : strOfNums a ++ strOfNums b = strOfNums (a ++ b) := by
  apply ByteArray.ext; simp [strOfNums]

theorem refd_pos (m : Nat) : ∀ (k : Nat) (u : Nat), u < 10 ^ m → u ≤ 9223372036854775807 → m < k → lamplighterref01_Digits.f k u = some (strOfNums (dec u)) := by
  induction m with
  | zero =>
    intro k u h _ hk
    obtain ⟨k, rfl⟩ : ∃ j, k = j + 1 := ⟨k - 1, by omega⟩
    obtain rfl : u = 0 := by omega
    simp only [lamplighterref01_Digits.f]
    rw [if_neg (by omega), if_neg (by omega), if_pos (by omega), wrap_small (by omega) (by omega), dec_small (by omega)]; rfl
  | succ m ih =>
    intro k u h hu hk
    obtain ⟨k, rfl⟩ : ∃ j, k = j + 1 := ⟨k - 1, by omega⟩
    simp only [lamplighterref01_Digits.f]
    rw [if_neg (by omega), if_neg (by omega)]
    by_cases c : u < 10
    · rw [if_pos (by omega), wrap_small (by omega) (by omega), dec_small c]; congr 2; congr 1; omega
    · rw [if_neg (by omega), Int.tmod_eq_emod_of_nonneg (by omega), Int.tdiv_eq_ediv_of_nonneg (by omega), wrap_small (x := (u : Int) / 10) (by omega) (by omega), wrap_small (x := 48 + (u : Int) % 10) (by omega) (by omega)]
      rw [show (u : Int) / 10 = ((u / 10 : Nat) : Int) by omega, ih k (u / 10) (by rw [Nat.pow_succ] at h; omega) (by omega) (by omega)]
      simp only [Option.bind_some]
      have hs : (strOfNums (dec (u / 10))).size ≤ 19 := by rw [strOfNums_size]; exact (dec_len (by omega)).2
      rw [if_pos (by rw [strOfNums_size (_ :: _)]; simp; omega), strs_append, dec_big (by omega : 10 ≤ u)]
      congr 3; simp; omega

theorem refd_of (k : Nat) (n : Int) (hn : Is64 n) (hk : 100 < k) : lamplighterref01_Digits.f k n = some (strOfNums (sgn n)) := by
  by_cases c : n < 0
  · obtain ⟨k, rfl⟩ : ∃ j, k = j + 1 := ⟨k - 1, by omega⟩
    by_cases z : n = -9223372036854775808
    · subst z
      simp only [lamplighterref01_Digits.f, if_true]
      decide +kernel
    · simp only [lamplighterref01_Digits.f]
      rw [if_neg z, if_pos c, wrap_small (by omega) (by omega), show -n = (n.natAbs : Int) by omega, refd_pos 20 k n.natAbs (by omega) (by omega) (by omega)]
      simp only [Option.bind_some]
      have hs : (strOfNums (dec n.natAbs)).size ≤ 19 := by rw [strOfNums_size]; exact (dec_len (by omega)).2
      rw [if_pos (by omega)]
      unfold sgn; rw [if_pos c]
      have : (⟨#[45]⟩ : ByteArray) = strOfNums [45] := rfl
      rw [this, strs_append]; rfl
  · have := refd_pos 20 k n.natAbs (by omega) (by omega) (by omega)
    rw [show ((n.natAbs : Nat) : Int) = n by omega] at this
    rw [this]; unfold sgn; rw [if_neg c]

/-! num.Parse -/
theorem sub_of (a b : Int) (ha : Is64 a) (hb : Is64 b) : num_Sub.f a b = if Is64 (a - b) then some (a - b, true) else some (0, false) := by
  unfold Is64 at *
  unfold num_Sub.f
  by_cases c1 : b < 0
  · rw [if_pos c1, wrap_small (x := 9223372036854775807 + b) (by omega) (by omega)]
    by_cases c2 : a > 9223372036854775807 + b
    · rw [if_pos c2, if_neg (by omega)]
    · rw [if_neg c2, if_neg (by omega), if_pos (by omega), wrap_small (by omega) (by omega)]
  · rw [if_neg c1]
    by_cases c3 : b > 0
    · rw [if_pos c3, wrap_small (x := -9223372036854775808 + b) (by omega) (by omega)]
      by_cases c2 : a < -9223372036854775808 + b
      · rw [if_pos c2, if_neg (by omega)]
      · rw [if_neg c2, if_pos (by omega), wrap_small (by omega) (by omega)]
    · rw [if_neg c3, if_pos (by omega), wrap_small (by omega) (by omega)]
theorem neg_of (a : Int) (ha : Is64 a) : num_Neg.f a = if a = -9223372036854775808 then some (0, false) else some (-a, true) := by
  unfold num_Neg.f
  rw [sub_of 0 a (by unfold Is64; omega) ha]
  unfold Is64 at *
  by_cases c : a = -9223372036854775808
  · rw [if_neg (by omega), if_pos c]; rfl
  · rw [if_pos (by omega), if_neg c, show (0 : Int) - a = -a by omega]; rfl
theorem wrap_is (x : Int) : Is64 (wrap64 x) := by unfold Is64 wrap64; omega
/-- ten times a number, where the code asks for it: some answer, and the right one where it is of 64 bits -/
theorem mul_of (k : Nat) (a : Int) (ha : Is64 a) (hk : 10 < k) : ∃ p ok, num_Mul.f k a 10 = some (p, ok) ∧ Is64 p ∧ (Is64 (a * 10) → p = a * 10 ∧ ok = true) := by
  obtain ⟨k, rfl⟩ : ∃ j, k = j + 2 := ⟨k - 2, by omega⟩
  unfold num_Mul.f
  by_cases z : a = 0
  · rw [if_pos z]; simp only [num_Mul.j0, if_true]
    exact ⟨_, _, rfl, by unfold Is64; omega, fun _ => ⟨by omega, rfl⟩⟩
  · rw [if_neg z]
    have n1 : ¬ (10 : Int) = -1 := by decide
    have n2 : ¬ (10 : Int) = -9223372036854775808 := by decide
    have n3 : ¬ (10 : Int) = 0 := by decide
    have e2 : num_Mul.j0 (k + 2) a 10 ((10 : Int) == 0) = num_Mul.j0 (k + 2) a 10 false := by rfl
    rw [e2]
    have e3 : num_Mul.j0 (k + 2) a 10 false = if (wrap64 (Int.tdiv (wrap64 (a * 10)) 10)) = a then some (wrap64 (a * 10), true) else some (0, false) := by
      simp only [num_Mul.j0, n1, n2, n3, num_Mul.j1, if_false, Bool.false_eq_true, ite_self]
    rw [e3]
    by_cases c : wrap64 (Int.tdiv (wrap64 (a * 10)) 10) = a
    · rw [if_pos c]
      exact ⟨_, _, rfl, wrap_is _, fun h => ⟨wrap_small h.1 h.2, rfl⟩⟩
    · rw [if_neg c]
      refine ⟨_, _, rfl, by unfold Is64; omega, fun h => absurd ?_ c⟩
      rw [wrap_small h.1 h.2, Int.mul_tdiv_cancel a (by decide), wrap_small ha.1 ha.2]

/-- what the loop of Parse answers, whatever the text: a number whose text it is, or none -/
def Good (s : ByteArray) (r : Option (Int × Bool)) : Prop := ∃ v ok, r = some (v, ok) ∧ Is64 v ∧ (ok = true → strOfNums (sgn v) = s) ∧ (ok = false → v = 0)
theorem good_no (s : ByteArray) : Good s (some (0, false)) := ⟨0, false, rfl, by unfold Is64; omega, (fun h => by cases h), fun _ => rfl⟩
theorem same_text {a b : ByteArray} (h : a.toList = b.toList) : a = b := by
  rw [ByteArray.toList_eq, ByteArray.toList_eq] at h
  exact ByteArray.ext (Array.toList_inj.1 h)
theorem parse_end (k : Nat) (s d : ByteArray) (m : Bool) (v i : Int) (hv : Is64 v) (hi : ¬ i < (d.size : Int)) (hk : 101 < k) : Good s (num_Parse.l0 k s m d v (d.size : Int) i) ∧
    (m = true → strOfNums (sgn v) = s → num_Parse.l0 k s m d v (d.size : Int) i = some (v, true)) ∧
    (m = false → v ≠ -9223372036854775808 → strOfNums (sgn (-v)) = s → num_Parse.l0 k s m d v (d.size : Int) i = some (-v, true)) := by
  obtain ⟨k, rfl⟩ : ∃ j, k = j + 1 := ⟨k - 1, by omega⟩
  simp only [num_Parse.l0]
  rw [if_neg hi, digits_of k v hv (by omega), neg_of v hv]
  simp only [Option.bind_some]
  cases m with
  | true =>
    rw [if_pos rfl]
    refine ⟨?_, fun _ h => by rw [if_pos (by rw [h])], fun h => by cases h⟩
    by_cases c : (strOfNums (sgn v)).toList = s.toList
    · rw [if_pos c]; exact ⟨v, true, rfl, hv, fun _ => same_text c, fun h => by cases h⟩
    · rw [if_neg c]; exact good_no s
  | false =>
    rw [if_neg (by decide)]
    by_cases z : v = -9223372036854775808
    · rw [if_pos z]
      refine ⟨?_, (fun h => by cases h), fun _ h => absurd z h⟩
      simp only [Option.bind_some]; rw [if_neg (by decide)]; exact good_no s
    · rw [if_neg z]
      simp only [Option.bind_some]
      rw [if_pos trivial, digits_of k (-v) (by unfold Is64 at *; omega) (by omega)]
      simp only [Option.bind_some]
      refine ⟨?_, (fun h => by cases h), fun _ _ h => by rw [if_pos (by rw [h])]⟩
      by_cases c : (strOfNums (sgn (-v))).toList = s.toList
      · rw [if_pos c]; exact ⟨-v, true, rfl, by unfold Is64 at *; omega, fun _ => same_text c, fun h => by cases h⟩
      · rw [if_neg c]; exact good_no s

theorem parse_loop (s d : ByteArray) (m : Bool) (hd : d.size ≤ 19) (n : Nat) : ∀ (k : Nat) (v i : Int), Is64 v → 0 ≤ i → i ≤ d.size → (d.size : Int) - i = n → 2 * n + 150 < k →
    Good s (num_Parse.l0 k s m d v (d.size : Int) i) := by
  induction n with
  | zero => intro k v i hv h0 h1 hn hk; exact (parse_end k s d m v i hv (by omega) (by omega)).1
  | succ n ih =>
    intro k v i hv h0 h1 hn hk
    obtain ⟨k, rfl⟩ : ∃ j, k = j + 2 := ⟨k - 2, by omega⟩
    have hlt : i < (d.size : Int) := by omega
    have hb := bt_range d i
    have key : ∀ b, Good s (num_Parse.j4 (k + 1) s m d v (bt d i) (d.size : Int) i b) := by
      intro b
      simp only [num_Parse.j4]
      cases b with
      | true => rw [if_pos rfl]; exact good_no s
      | false =>
        rw [if_neg (by decide)]
        obtain ⟨p, ok, hp, hp1, _⟩ := mul_of k v hv (by omega)
        rw [hp]
        simp only [Option.bind_some]
        have hx : Is64 ((bt d i - 48) % 256) := by unfold Is64; omega
        rw [sub_of p _ hp1 hx]
        have hw : wrap64 (i + 1) = i + 1 := wrap_small (by omega) (by omega)
        by_cases c : Is64 (p - (bt d i - 48) % 256)
        · rw [if_pos c]
          simp only [Option.bind_some, if_true]
          rw [hw]
          split
          · exact ih k _ (i + 1) c (by omega) (by omega) (by omega) (by omega)
          · exact good_no s
        · rw [if_neg c]
          simp only [Option.bind_some, Bool.false_eq_true, if_false]
          split <;> exact good_no s
    rw [num_Parse.l0, if_pos hlt, if_pos h0, if_pos hlt]
    by_cases c : bt d i < 48
    · rw [if_pos c]; exact key _
    · rw [if_neg c]; exact key _

theorem parse_good (k : Nat) (s : ByteArray) (hk : 300 < k) : Good s (num_Parse.f k s) := by
  have h1 : ∀ (k : Nat) (m : Bool) (d : ByteArray), 250 < k → Good s (num_Parse.j1 k s m d) := by
    intro k m d hk
    obtain ⟨k, rfl⟩ : ∃ j, k = j + 2 := ⟨k - 2, by omega⟩
    have h2 : ∀ b, (b = false → d.size ≤ 19) → Good s (num_Parse.j2 (k + 1) s m d b) := by
      intro b hb
      simp only [num_Parse.j2]
      cases b with
      | true => rw [if_pos rfl]; exact good_no s
      | false => rw [if_neg (by decide)]; exact parse_loop s d m (hb rfl) d.size k 0 0 (by unfold Is64; omega) (by omega) (by omega) (by omega) (by have := hb rfl; omega)
    simp only [num_Parse.j1]
    split
    · exact h2 true (fun h => by cases h)
    · refine h2 _ (fun h => ?_)
      have := of_decide_eq_false h; omega
  have h0 : ∀ (k : Nat) (m : Bool), 260 < k → (m = true → 1 ≤ (s.size : Int)) → Good s (num_Parse.j0 k s m) := by
    intro k m hk hm
    obtain ⟨k, rfl⟩ : ∃ j, k = j + 1 := ⟨k - 1, by omega⟩
    simp only [num_Parse.j0]
    cases m with
    | true => rw [if_pos rfl, if_pos (hm rfl)]; exact h1 k true _ (by omega)
    | false => rw [if_neg (by decide)]; exact h1 k false _ (by omega)
  unfold num_Parse.f
  by_cases c : s.toList = []
  · rw [if_pos c]; exact h0 k false (by omega) (fun h => by cases h)
  · rw [if_neg c]
    have hs : 0 < s.size := by
      rw [ByteArray.toList_eq] at c
      rw [Go.Lib.size_eq]
      cases h : s.data.toList with
      | nil => exact absurd h c
      | cons _ _ => simp
    rw [if_pos (by omega)]
    exact h0 k _ (by omega) (fun _ => by omega)

/-- the digits of a number are read again -/
theorem bt_nums (l : List Int) (i : Int) (h0 : 0 ≤ i) (h1 : i < l.length) (hm : ∀ c ∈ l, 0 ≤ c ∧ c ≤ 255) : bt (strOfNums l) i = l.getD i.toNat 0 := by
  have hi : i.toNat < l.length := by omega
  unfold bt
  have hs : i.toNat < (strOfNums l).size := by rw [strOfNums_size]; omega
  rw [dif_pos hs]
  have e : (strOfNums l)[i.toNat] = UInt8.ofNat (l[i.toNat]).toNat := by
    show (strOfNums l).data[i.toNat] = _
    simp [strOfNums]
  rw [e, List.getD_eq_getElem?_getD, List.getElem?_eq_getElem hi]
  have := hm _ (List.getElem_mem hi)
  simp only [UInt8.toNat_ofNat', Option.getD_some]
  omega

theorem read_loop (s : ByteArray) (m : Bool) (u : Nat) (hu : u ≤ 9223372036854775808) (n : Nat) : ∀ (k : Nat) (i : Nat), i + n = (dec u).length → 2 * n + 150 < k →
    (m = true → strOfNums (sgn (-(u : Int))) = s) → (m = false → u ≤ 9223372036854775807 ∧ strOfNums (sgn (u : Int)) = s) →
    num_Parse.l0 k s m (strOfNums (dec u)) (-(val ((dec u).take i))) ((strOfNums (dec u)).size : Int) i = some (if m = true then -(u : Int) else u, true) := by
  have hl := dec_len hu
  have hm48 : ∀ c ∈ dec u, 48 ≤ c := fun c hc => (dec_mem u c hc).1
  induction n with
  | zero =>
    intro k i hi hk h1 h2
    have e := parse_end k s (strOfNums (dec u)) m (-(val ((dec u).take i))) i ?_ (by rw [strOfNums_size]; omega) (by omega)
    · rw [List.take_of_length_le (by omega), val_dec] at e ⊢
      cases m with
      | true => rw [if_pos rfl]; exact e.2.1 rfl (h1 rfl)
      | false =>
        rw [if_neg (by decide)]
        have := e.2.2 rfl (by have := (h2 rfl).1; omega) (by rw [Int.neg_neg]; exact (h2 rfl).2)
        rw [Int.neg_neg] at this; exact this
    · have := val_take (dec u) i hm48; rw [val_dec] at this; unfold Is64; omega
  | succ n ih =>
    intro k i hi hk h1 h2
    obtain ⟨k, rfl⟩ : ∃ j, k = j + 2 := ⟨k - 2, by omega⟩
    have hlt : i < (dec u).length := by omega
    have hsz : (strOfNums (dec u)).size = (dec u).length := strOfNums_size _
    rw [num_Parse.l0, if_pos (by rw [hsz]; omega), if_pos (by omega), if_pos (by rw [hsz]; omega)]
    have hb : bt (strOfNums (dec u)) (i : Int) = (dec u)[i] := by
      rw [bt_nums _ _ (by omega) (by omega) (fun c hc => by have := dec_mem u c hc; omega)]
      simp [hlt]
    have hc := dec_mem u _ (List.getElem_mem hlt)
    have v1 := val_take (dec u) i hm48
    have v2 := val_take (dec u) (i + 1) hm48
    have es : (dec u).take (i + 1) = (dec u).take i ++ [(dec u)[i]] := List.take_succ_eq_append_getElem hlt
    have ev : val ((dec u).take (i + 1)) = val ((dec u).take i) * 10 + ((dec u)[i] - 48) := by rw [es, val_snoc]
    rw [val_dec] at v1 v2
    rw [hb, if_neg (by omega), decide_eq_false (by omega)]
    simp only [num_Parse.j4]
    rw [if_neg (by decide)]
    obtain ⟨p, ok, hp, _, hp1⟩ := mul_of k (-(val ((dec u).take i))) (by unfold Is64; omega) (by omega)
    obtain ⟨rfl, rfl⟩ := hp1 (by unfold Is64; omega)
    rw [hp]
    simp only [Option.bind_some]
    rw [sub_of _ _ (by unfold Is64; omega) (by unfold Is64; omega), if_pos (by unfold Is64; omega)]
    simp only [Option.bind_some, if_true]
    rw [wrap_small (by omega) (by omega)]
    have e3 : -val ((dec u).take i) * 10 - ((dec u)[i] - 48) % 256 = -(val ((dec u).take (i + 1))) := by rw [ev]; omega
    rw [e3]
    exact ih k (i + 1) (by omega) (by omega) h1 h2

theorem nums_nil {l : List Int} (h : l ≠ []) : (strOfNums l).toList ≠ [] := by
  rw [ByteArray.toList_eq, strOfNums_data]
  simpa using h

theorem parse_digits (k : Nat) (n : Int) (hn : Is64 n) (hk : 300 < k) : num_Parse.f k (strOfNums (sgn n)) = some (n, true) := by
  have hl := dec_len (u := n.natAbs) (by omega)
  have run : ∀ (k : Nat) (m : Bool), 250 < k → (m = true → n ≤ 0 ∧ strOfNums (sgn n) = strOfNums (sgn n)) → (m = decide (n < 0)) →
      num_Parse.j1 k (strOfNums (sgn n)) m (strOfNums (dec n.natAbs)) = some (n, true) := by
    intro k m hk _ hm
    obtain ⟨k, rfl⟩ : ∃ j, k = j + 2 := ⟨k - 2, by omega⟩
    simp only [num_Parse.j1]
    rw [if_neg (nums_nil (by intro h; rw [h] at hl; simp at hl)), strOfNums_size, decide_eq_false (by omega)]
    simp only [num_Parse.j2]
    rw [if_neg (by decide)]
    have := read_loop (strOfNums (sgn n)) m n.natAbs (by omega) (dec n.natAbs).length k 0 (by omega) (by omega)
      (fun h => by rw [h] at hm; have := of_decide_eq_true hm.symm; rw [show -((n.natAbs : Nat) : Int) = n by omega])
      (fun h => by rw [h] at hm; have := of_decide_eq_false hm.symm; refine ⟨by omega, ?_⟩; rw [show ((n.natAbs : Nat) : Int) = n by omega])
    simp only [List.take_zero] at this
    have e0 : -(val []) = 0 := rfl
    rw [e0] at this
    rw [show ((0 : Nat) : Int) = 0 from rfl] at this
    rw [this]
    congr 2
    cases m with
    | true => have := of_decide_eq_true hm.symm; rw [if_pos rfl]; omega
    | false => have := of_decide_eq_false hm.symm; rw [if_neg (by decide)]; omega
  unfold num_Parse.f
  obtain ⟨k, rfl⟩ : ∃ j, k = j + 1 := ⟨k - 1, by omega⟩
  have hne : sgn n ≠ [] := by unfold sgn; split; · simp
                              · intro h; rw [h] at hl; simp at hl
  have hsz : (strOfNums (sgn n)).size ≤ 20 ∧ 0 < (strOfNums (sgn n)).size := by
    rw [strOfNums_size]; unfold sgn; split
    · simp; omega
    · omega
  have hmem : ∀ c ∈ sgn n, 0 ≤ c ∧ c ≤ 255 := by
    intro c hc; unfold sgn at hc; split at hc
    · rcases List.mem_cons.1 hc with e | e
      · omega
      · have := dec_mem _ c e; omega
    · have := dec_mem _ c hc; omega
  rw [if_neg (nums_nil hne), if_pos (by omega), bt_nums _ 0 (by omega) (by rw [← strOfNums_size]; omega) hmem]
  by_cases c : n < 0
  · have e : sgn n = 45 :: dec n.natAbs := by unfold sgn; rw [if_pos c]
    rw [e]
    have e2 : ((45 :: dec n.natAbs).getD (0 : Int).toNat 0 == 45) = true := rfl
    rw [e2]
    simp only [num_Parse.j0]
    rw [if_pos trivial, ← e, if_pos (by omega)]
    have e3 : (strOfNums (sgn n)).extract 1 (strOfNums (sgn n)).size = strOfNums (dec n.natAbs) := by
      apply same_text
      rw [Go.Lib.extract_toList, ByteArray.toList_eq, strOfNums_data, strOfNums_data, e, strOfNums_size]
      simp only [List.map_cons, List.drop_succ_cons, List.drop_zero, List.length_cons, Nat.add_sub_cancel]
      exact List.take_of_length_le (by simp)
    rw [e3]
    exact run k true (by omega) (fun _ => ⟨by omega, rfl⟩) (decide_eq_true c).symm
  · have e : sgn n = dec n.natAbs := by unfold sgn; rw [if_neg c]
    have hh : (((sgn n).getD (0 : Int).toNat 0) == 45) = false := by
      rw [e, List.getD_eq_getElem?_getD, List.getElem?_eq_getElem (by simpa using (by omega : 0 < (dec n.natAbs).length))]
      have := dec_mem n.natAbs _ (List.getElem_mem (by simpa using (by omega : 0 < (dec n.natAbs).length) : (0 : Int).toNat < (dec n.natAbs).length))
      simp only [Option.getD_some]
      rw [beq_eq_false_iff_ne]; omega
    rw [hh]
    simp only [num_Parse.j0]
    rw [if_neg (by decide), e, ← e]
    have := run k false (by omega) (fun h => by cases h) (decide_eq_false c).symm
    rw [← e] at this; exact this

theorem awake_true : lamplighterlaw01_awake.f 400 = some true := by decide +kernel

theorem NumTexts : lamplighterlaw01_NumTexts.Pure := by
  intro n s wn hs
  have hn : Is64 n := by unfold Is64; simpa [Lit.wf, IntKind.min, IntKind.max, IntKind.signed, IntKind.bits] using wn
  refine ⟨400, ?_⟩
  unfold lamplighterlaw01_NumTexts.f
  rw [if_pos (by unfold mn; split <;> omega), if_pos (by unfold mn; split <;> omega)]
  generalize s.extract 0 (mn (s.size : Int) 22).toNat = t
  rw [digits_of 400 n hn (by omega), refd_of 400 n hn (by omega), awake_true]
  simp only [Option.bind_some]
  rw [parse_digits 400 n hn (by omega)]
  simp only [Option.bind_some]
  obtain ⟨v, ok, hp, hv, h1, h0⟩ := parse_good 400 t (by omega)
  rw [hp]
  simp only [Option.bind_some, if_true]
  rw [refd_of 400 v hv (by omega)]
  simp only [Option.bind_some]
  cases ok with
  | true => rw [h1 rfl]; simp
  | false => rw [h0 rfl]; simp

end Go.Proofs.Ytcnoaflojojfkab.Pure
