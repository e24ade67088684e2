/- What the program makes of names, fields and types. No condition. -/
import Derived.Test.YtcnoaflojojfkacSchMA
import Derived.Laws.StructEq
import Derived.Laws.Strings
import Derived.Test.YtcnoaflojojfkacBits
import Derived.KernelRfl
namespace Go.Proofs.Ytcnoaflojojfkac.SchM
open Go Go.Proofs.Ytcnoaflojojfkac.Vm
set_option linter.unusedVariables false
set_option linter.unusedSimpArgs false
set_option maxRecDepth 100000
/-- may it stand in a name -/
def letB (c : Int) : Bool := (decide (97 ≤ c) && decide (c ≤ 122)) || (decide (65 ≤ c) && decide (c ≤ 90)) || decide (c = 95)
def okB (c : Int) : Bool := letB c || (decide (48 ≤ c) && decide (c ≤ 57))
def chk (s : ByteArray) : Nat → Nat → Bool
  | _, 0 => true
  | i, m + 1 => okB (byteAt s i) && chk s (i + 1) m
theorem F79_eq (k : Nat) (c : Int) (κ : Bool → Option Res) : F79 (k + 1) c κ = κ (letB c) := by
  have hb : (c == 95) = decide (c = 95) := by by_cases h : c = 95 <;> simp [h]
  rw [F79, hb]
  unfold letB
  by_cases h1 : 97 ≤ c <;> by_cases h2 : c ≤ 122 <;> by_cases h3 : 65 ≤ c <;> by_cases h4 : c ≤ 90 <;> simp [h1, h2, h3, h4, ge_iff_le] <;> (try omega) <;> (try (congr 1; rw [Bool.eq_iff_iff]; simp))
theorem wrap_small {x : Int} (h0 : -9223372036854775808 ≤ x) (h1 : x ≤ 9223372036854775807) : IntKind.wrap .i64 x = x := by
  rw [IntKind.wrap_i64]; omega
theorem L16_0_eq (s : ByteArray) (hs : s.size ≤ 1000) : ∀ (m p k : Nat) (κ : Bool → Option Res) (K : Int → Option Res), p + m = s.size → m + 2 ≤ k →
    L16_0 k κ s (s.size : Int) (p : Int) K = if chk s p m = true then K (s.size : Int) else κ false := by
  intro m
  induction m with
  | zero =>
    intro p k κ K hp hk
    obtain ⟨k, rfl⟩ : ∃ k', k = k' + 1 := ⟨k - 1, by omega⟩
    unfold L16_0
    have : ¬ ((p : Int) < (s.size : Int)) := by omega
    rw [if_neg (by simpa using this)]
    have : p = s.size := by omega
    subst this
    rfl
  | succ m ih =>
    intro p k κ K hp hk
    obtain ⟨k, rfl⟩ : ∃ k', k = k' + 2 := ⟨k - 2, by omega⟩
    show L16_0 (k + 1 + 1) κ s (s.size : Int) (p : Int) K = _
    unfold L16_0
    have h1 : (p : Int) < (s.size : Int) := by omega
    rw [if_pos (by simpa using h1), if_pos (by simp; omega), F79_eq]
    have hw : IntKind.wrap .i64 ((p : Int) + 1) = ((p + 1 : Nat) : Int) := by rw [wrap_small (by omega) (by omega)]; omega
    rw [hw, ih (p + 1) (k + 1) κ K (by omega) (by omega)]
    show _ = if (okB (byteAt s p) && chk s (p + 1) m) = true then _ else _
    unfold okB
    cases hl : letB (byteAt s (p : Int)) with
    | true => simp
    | false =>
      by_cases h2 : byteAt s (p : Int) < 48
      · simp [h2, show ¬ 48 ≤ byteAt s (p : Int) by omega]
      · by_cases h3 : byteAt s (p : Int) > 57
        · simp [h2, h3, show ¬ byteAt s (p : Int) ≤ 57 by omega]
        · simp [h2, h3, show 48 ≤ byteAt s (p : Int) by omega, show byteAt s (p : Int) ≤ 57 by omega]
/-! words -/
def words : List ByteArray := [⟨#[83, 69, 81]⟩, ⟨#[87, 72, 69, 82, 69]⟩, ⟨#[87, 73, 84, 72, 73, 78]⟩, ⟨#[67, 65, 80]⟩, ⟨#[97, 110, 100]⟩, ⟨#[111, 114]⟩, ⟨#[110, 111, 116]⟩, ⟨#[116, 114, 117, 101]⟩, ⟨#[102, 97, 108, 115, 101]⟩]
def big : ByteArray := ⟨#[32, 83, 69, 81, 32, 87, 72, 69, 82, 69, 32, 87, 73, 84, 72, 73, 78, 32, 67, 65, 80, 32, 97, 110, 100, 32, 111, 114, 32, 110, 111, 116, 32, 116, 114, 117, 101, 32, 102, 97, 108, 115, 101, 32]⟩
def isW (s : ByteArray) : List ByteArray → Bool
  | [] => false
  | w :: l => (s.toList == w.toList) || isW s l
def occ (s : ByteArray) : Nat → Nat → Bool
  | _, 0 => false
  | i, m + 1 => ((big.extract i (i + s.size + 2)).toList == (((⟨#[32]⟩ : ByteArray) ++ s) ++ (⟨#[32]⟩ : ByteArray)).toList) || occ s (i + 1) m
theorem L16_1_eq (s : ByteArray) (hs : s.size ≤ 16) : ∀ (m p k : Nat) (κ : Bool → Option Res) (K : Int → Option Res), p + m = 43 - s.size → m + 2 ≤ k →
    L16_1 k κ s ((43 - s.size : Nat) : Int) (p : Int) K = if occ s p m = true then κ false else K ((43 - s.size : Nat) : Int) := by
  intro m
  induction m with
  | zero =>
    intro p k κ K hp hk
    obtain ⟨k, rfl⟩ : ∃ k', k = k' + 1 := ⟨k - 1, by omega⟩
    unfold L16_1
    have : ¬ ((p : Int) < ((43 - s.size : Nat) : Int)) := by omega
    rw [if_neg (by simpa using this)]
    have : p = 43 - s.size := by omega
    subst this
    rfl
  | succ m ih =>
    intro p k κ K hp hk
    obtain ⟨k, rfl⟩ : ∃ k', k = k' + 1 := ⟨k - 1, by omega⟩
    unfold L16_1
    have h1 : (p : Int) < ((43 - s.size : Nat) : Int) := by omega
    have hwr : IntKind.wrap .i64 ((p : Int) + 1) = ((p + 1 : Nat) : Int) := by rw [wrap_small (by omega) (by omega)]; omega
    have hw2 : IntKind.wrap .i64 ((IntKind.wrap .i64 ((p : Int) + (s.size : Int))) + 2) = ((p + s.size + 2 : Nat) : Int) := by
      rw [wrap_small (x := (p : Int) + (s.size : Int)) (by omega) (by omega), wrap_small (by omega) (by omega)]; omega
    have hb : ((⟨#[32, 83, 69, 81, 32, 87, 72, 69, 82, 69, 32, 87, 73, 84, 72, 73, 78, 32, 67, 65, 80, 32, 97, 110, 100, 32, 111, 114, 32, 110, 111, 116, 32, 116, 114, 117, 101, 32, 102, 97, 108, 115, 101, 32]⟩ : ByteArray).size : Int) = 44 := rfl
    have h3 : (⟨#[32]⟩ : ByteArray).size = 1 := rfl
    have h4 : ((⟨#[32]⟩ : ByteArray) ++ s).size = 1 + s.size := by rw [ByteArray.size_append, h3]
    rw [if_pos (by simpa using h1), hw2, hb, if_pos (by simp; omega), h3, h4, if_pos (by simp; omega), if_pos (by simp; omega), hwr, ih (p + 1) k κ K (by omega) (by omega)]
    show (if ((big.extract (p : Int).toNat ((p + s.size + 2 : Nat) : Int).toNat).toList == _) = true then _ else _) = if (((big.extract p (p + s.size + 2)).toList == _) || occ s (p + 1) m) = true then _ else _
    rw [Int.toNat_natCast, Int.toNat_natCast]
    cases ((big.extract p (p + s.size + 2)).toList == (((⟨#[32]⟩ : ByteArray) ++ s) ++ (⟨#[32]⟩ : ByteArray)).toList) <;> simp
/-! the long text and the words -/
def bigL : List UInt8 := [32, 83, 69, 81, 32, 87, 72, 69, 82, 69, 32, 87, 73, 84, 72, 73, 78, 32, 67, 65, 80, 32, 97, 110, 100, 32, 111, 114, 32, 110, 111, 116, 32, 116, 114, 117, 101, 32, 102, 97, 108, 115, 101, 32]
def wordsL : List (List UInt8) := [[83, 69, 81], [87, 72, 69, 82, 69], [87, 73, 84, 72, 73, 78], [67, 65, 80], [97, 110, 100], [111, 114], [110, 111, 116], [116, 114, 117, 101], [102, 97, 108, 115, 101]]
theorem occ_iff (s : ByteArray) : ∀ (m p : Nat), occ s p m = true ↔ ∃ i, p ≤ i ∧ i < p + m ∧ (bigL.drop i).take (s.size + 2) = 32 :: (s.data.toList ++ [32])
  | 0, p => by simp [occ]; intro i h1 h2; omega
  | m + 1, p => by
    unfold occ
    have he : ((big.extract p (p + s.size + 2)).toList == (((⟨#[32]⟩ : ByteArray) ++ s) ++ (⟨#[32]⟩ : ByteArray)).toList) = true ↔ (bigL.drop p).take (s.size + 2) = 32 :: (s.data.toList ++ [32]) := by
      rw [beq_iff_eq, ByteArray.toList_eq, ByteArray.toList_eq]
      have e1 : (big.extract p (p + s.size + 2)).data.toList = (bigL.drop p).take (s.size + 2) := by
        rw [ByteArray.data_extract, Array.toList_extract, List.extract_eq_take_drop, show p + s.size + 2 - p = s.size + 2 by omega]
        rfl
      have e2 : (((⟨#[32]⟩ : ByteArray) ++ s) ++ (⟨#[32]⟩ : ByteArray)).data.toList = 32 :: (s.data.toList ++ [32]) := by
        simp
      rw [e1, e2]
    rw [Bool.or_eq_true, he, occ_iff s m (p + 1)]
    constructor
    · rintro (h | ⟨i, h1, h2, h3⟩)
      · exact ⟨p, Nat.le_refl _, by omega, h⟩
      · exact ⟨i, by omega, by omega, h3⟩
    · rintro ⟨i, h1, h2, h3⟩
      by_cases e : i = p
      · subst e; exact .inl h3
      · exact .inr ⟨i, by omega, by omega, h3⟩
theorem isW_iff (s : ByteArray) : isW s words = true ↔ s.data.toList ∈ wordsL := by
  simp only [isW, words, wordsL, Bool.or_eq_true, beq_iff_eq, ByteArray.toList_eq, List.mem_cons, List.not_mem_nil, or_false, Bool.false_eq_true]
theorem chk_at (s : ByteArray) : ∀ (m p : Nat), chk s p m = true → ∀ i, p ≤ i → i < p + m → okB (byteAt s (i : Int)) = true
  | 0, p, _, i, h1, h2 => by omega
  | m + 1, p, h, i, h1, h2 => by
    simp only [chk, Bool.and_eq_true] at h
    by_cases e : i = p
    · subst e; exact h.1
    · exact chk_at s m (p + 1) h.2 i (by omega) (by omega)
theorem fact1 : ((List.range 17).all fun n => (List.range (43 - n)).all fun i => ((bigL.drop i).take (n + 2)).length != n + 2 || (bigL.getD i 0 != 32) || (bigL.getD (i + 1 + n) 0 != 32) || ((bigL.drop (i + 1)).take n).any (· == 32) || n == 0 || wordsL.contains ((bigL.drop (i + 1)).take n)) = true := by decide +kernel
theorem fact2 : (wordsL.all fun w => (List.range (43 - w.length)).any fun i => (bigL.drop i).take (w.length + 2) == 32 :: (w ++ [32])) = true := by decide +kernel
theorem occ_words (s : ByteArray) (h0 : 0 < s.size) (h16 : s.size ≤ 16) (hc : chk s 0 s.size = true) : occ s 0 (43 - s.size) = isW s words := by
  have hlen : s.data.toList.length = s.size := by simp
  rw [Bool.eq_iff_iff, occ_iff, isW_iff]
  constructor
  · rintro ⟨i, _, h2, h3⟩
    have f := fact1
    rw [List.all_eq_true] at f
    have f := f s.size (List.mem_range.2 (by omega))
    rw [List.all_eq_true] at f
    have f := f i (List.mem_range.2 (by omega))
    have e1 : bigL.drop i = 32 :: bigL.drop (i + 1) := by
      have : ((bigL.drop i).take (s.size + 2))[0]? = some 32 := by rw [h3]; rfl
      rw [List.getElem?_take, if_pos (by omega), List.getElem?_drop, Nat.add_zero] at this
      rw [List.drop_eq_getElem_cons (List.getElem?_eq_some_iff.1 this).1, (List.getElem?_eq_some_iff.1 this).2]
    have e2 : (bigL.drop (i + 1)).take (s.size + 1) = s.data.toList ++ [32] := by
      rw [e1, show s.size + 2 = (s.size + 1) + 1 by omega, List.take_succ_cons] at h3
      exact (List.cons.inj h3).2
    have e3 : (bigL.drop (i + 1)).take s.size = s.data.toList := by
      have := congrArg (List.take s.size) e2
      rw [List.take_take, Nat.min_eq_left (by omega), List.take_left' hlen] at this
      exact this
    have e4 : bigL.getD i 0 = 32 := by
      have : (bigL.drop i)[0]? = some 32 := by rw [e1]; rfl
      rw [List.getElem?_drop, Nat.add_zero] at this
      rw [List.getD_eq_getElem?_getD, this]; rfl
    have e5 : bigL.getD (i + 1 + s.size) 0 = 32 := by
      have : ((bigL.drop (i + 1)).take (s.size + 1))[s.size]? = some 32 := by
        rw [e2, List.getElem?_append_right (by omega), hlen, Nat.sub_self]; rfl
      rw [List.getElem?_take, if_pos (by omega), List.getElem?_drop] at this
      rw [List.getD_eq_getElem?_getD, this]; rfl
    have e6 : ((bigL.drop i).take (s.size + 2)).length = s.size + 2 := by rw [h3]; simp [hlen]
    rw [e3, e4, e5, e6] at f
    have e7 : s.data.toList.any (· == 32) = false := by
      rw [List.any_eq_false]
      intro b hb hb32
      obtain ⟨j, hj⟩ := List.mem_iff_getElem?.1 hb
      have hjl := (List.getElem?_eq_some_iff.1 hj).1
      have hok := chk_at s _ 0 hc j (Nat.zero_le _) (by omega)
      have hb' : byteAt s (j : Int) = 32 := by
        unfold byteAt
        rw [Int.toNat_natCast]
        rw [Array.getElem?_toList] at hj
        rw [hj]
        have : b = 32 := by simpa using hb32
        subst this; rfl
      rw [hb'] at hok
      revert hok; decide
    rw [e7] at f
    have h0' : (s.size == 0) = false := by rw [beq_eq_false_iff_ne]; omega
    rw [h0'] at f
    simpa using f
  · intro h
    have f := fact2
    rw [List.all_eq_true] at f
    have f := f _ h
    rw [List.any_eq_true] at f
    obtain ⟨i, h1, h2⟩ := f
    rw [hlen] at h1 h2
    exact ⟨i, Nat.zero_le _, by have := List.mem_range.1 h1; omega, by simpa using h2⟩
def nameB (s : ByteArray) : Bool := decide (0 < s.size) && (decide (s.size ≤ 16) && (letB (byteAt s 0) && (chk s 1 (s.size - 1) && !isW s words)))
theorem empty_iff (s : ByteArray) : (s.toList == (⟨#[]⟩ : ByteArray).toList) = decide (s.size = 0) := by
  rw [ByteArray.toList_eq, ByteArray.toList_eq, Bool.eq_iff_iff, beq_iff_eq, decide_eq_true_iff]
  have : s.size = s.data.toList.length := by simp
  rw [this]
  exact ⟨fun h => by rw [h]; rfl, fun h => List.eq_nil_of_length_eq_zero h⟩
theorem F16_eq (s : ByteArray) (k : Nat) (hk : 60 ≤ k) (κ : Bool → Option Res) : F16 (k + 1) s κ = κ (nameB s) := by
  rw [F16, empty_iff]
  unfold nameB
  by_cases h0 : s.size = 0
  · simp [h0]
  · by_cases h16 : s.size ≤ 16
    · obtain ⟨k', rfl⟩ : ∃ k', k = k' + 1 := ⟨k - 1, by omega⟩
      have e1 : decide ((s.size : Int) > 16) = false := by simp; omega
      have e2 : decide ((0 : Int) < (s.size : Int)) = true := by simp; omega
      have e3 : decide (s.size = 0) = false := by simpa using h0
      have e4 : decide (0 < s.size) = true := by simp; omega
      have e5 : decide (s.size ≤ 16) = true := by simpa using h16
      rw [e1, e2, e3, e4, e5, if_neg (by simp), if_neg (by simp), if_pos rfl, F79_eq]
      have hw : IntKind.wrap .i64 ((IntKind.wrap .i64 ((44 : Int) - (s.size : Int))) - (1 : Int)) = ((43 - s.size : Nat) : Int) := by
        rw [wrap_small (x := (44 : Int) - (s.size : Int)) (by omega) (by omega), wrap_small (by omega) (by omega)]; omega
      have h1 := L16_0_eq s (by omega) s.size 0 (k' + 1) κ (fun v3 => L16_1 (k' + 1) κ s ((43 - s.size : Nat) : Int) 0 fun v4 => κ true) (by omega) (by omega)
      have h2 := L16_1_eq s h16 (43 - s.size) 0 (k' + 1) κ (fun _ => κ true) (by omega) (by omega)
      have hc : chk s 0 s.size = (okB (byteAt s 0) && chk s 1 (s.size - 1)) := by
        obtain ⟨m, hm⟩ : ∃ m, s.size = m + 1 := ⟨s.size - 1, by omega⟩
        rw [hm]; rfl
      rw [hw]
      cases hl : letB (byteAt s 0) with
      | false => rfl
      | true =>
        have hok : okB (byteAt s 0) = true := by unfold okB; rw [hl]; rfl
        rw [hok, Bool.true_and] at hc
        rw [if_neg (by simp)]
        refine h1.trans ?_
        rw [hc]
        cases hch : chk s 1 (s.size - 1) with
        | false => rfl
        | true =>
          rw [if_pos rfl]
          refine h2.trans ?_
          rw [occ_words s (by omega) h16 (by rw [hc]; exact hch)]
          cases isW s words <;> rfl
    · have e3 : decide (s.size = 0) = false := by simpa using h0
      have e5 : decide (s.size ≤ 16) = false := by simpa using h16
      have e1 : decide ((s.size : Int) > 16) = true := by simp; omega
      rw [e1, e3, e5]
      simp
theorem lt_t {j n : Nat} (h : j < n) : decide ((j : Int) < (n : Int)) = true := by simpa using h
theorem lt_f (n : Nat) : decide ((n : Int) < (n : Int)) = false := by simp
theorem rng {j n : Nat} (h : j < n) : (decide ((0 : Int) ≤ (j : Int)) && decide ((j : Int) < (n : Int))) = true := by simp; omega
theorem rngE {j n : Nat} (h : j ≤ n) : (decide ((0 : Int) ≤ (j : Int)) && decide ((j : Int) ≤ (n : Int))) = true := by simp; omega
theorem wr {j n : Nat} (h : j < n) (hn : n ≤ 1000) : IntKind.wrap .i64 ((j : Int) + 1) = ((j + 1 : Nat) : Int) := by rw [wrap_small (by omega) (by omega)]; omega
def find {α : Type} (t : Nat → Option α) : Nat → Nat → Option α
  | _, 0 => none
  | j, m + 1 => match t j with
    | some c => some c
    | none => find t (j + 1) m
theorem find_congr {α : Type} {t t' : Nat → Option α} : ∀ m j, (∀ i, j ≤ i → i < j + m → t i = t' i) → find t j m = find t' j m
  | 0, _, _ => rfl
  | m + 1, j, h => by
    unfold find
    rw [h j (Nat.le_refl _) (by omega), find_congr m (j + 1) (fun i h1 h2 => h i (by omega) (by omega))]
theorem find_none {α : Type} {t : Nat → Option α} : ∀ m j, find t j m = none → ∀ i, j ≤ i → i < j + m → t i = none
  | 0, j, _, i, h1, h2 => by omega
  | m + 1, j, h, i, h1, h2 => by
    unfold find at h
    split at h
    · cases h
    · rename_i e
      by_cases hi : i = j
      · rw [hi]; exact e
      · exact find_none m (j + 1) h i (by omega) (by omega)
theorem find_all {α : Type} {t : Nat → Option α} : ∀ m j, (∀ i, j ≤ i → i < j + m → t i = none) → find t j m = none
  | 0, _, _ => rfl
  | m + 1, j, h => by
    unfold find
    rw [h j (Nat.le_refl _) (by omega)]
    exact find_all m (j + 1) (fun i h1 h2 => h i (by omega) (by omega))
theorem find_first {α : Type} {t : Nat → Option α} {c : α} : ∀ m j i, j ≤ i → i < j + m → t i = some c → (∀ q, j ≤ q → q < i → t q = none) → find t j m = some c
  | 0, j, i, h1, h2, _, _ => by omega
  | m + 1, j, i, h1, h2, h3, h4 => by
    unfold find
    by_cases hi : i = j
    · subst hi; rw [h3]
    · rw [h4 j (Nat.le_refl _) (by omega)]
      exact find_first m (j + 1) i (by omega) (by omega) h3 (fun q a b => h4 q (by omega) b)
def fin {α R : Type} (f : α → R) (e : R) : Option α → R
  | some c => f c
  | none => e
theorem loop_find {α R : Type} (t : Nat → Option α) (f : α → R) (e : R) (n N : Nat) (S : Nat → Nat → R) (hs : ∀ k j, N ≤ k → j < n → S (k + 1) j = fin f (S k (j + 1)) (t j)) (he : ∀ k, S (k + 1) n = e) :
    ∀ m j k, j + m = n → m + 1 + N ≤ k → S k j = fin f e (find t j m) := by
  intro m
  induction m with
  | zero =>
    intro j k hj hk
    obtain ⟨k, rfl⟩ : ∃ k', k = k' + 1 := ⟨k - 1, by omega⟩
    have : j = n := by omega
    subst this
    rw [he]; rfl
  | succ m ih =>
    intro j k hj hk
    obtain ⟨k, rfl⟩ : ∃ k', k = k' + 1 := ⟨k - 1, by omega⟩
    rw [hs k j (by omega) (by omega), ih (j + 1) k (by omega) (by omega)]
    show _ = fin f e (match t j with | some c => some c | none => find t (j + 1) m)
    cases t j <;> rfl
abbrev Fld := ByteArray × Int
abbrev Typ := ByteArray × List (ByteArray × Int)
abbrev zF : ByteArray × Int := ((⟨#[]⟩ : ByteArray), (0 : Int))
abbrev zT : ByteArray × List (ByteArray × Int) := ((⟨#[]⟩ : ByteArray), ([] : List (ByteArray × Int)))
def hitF (l : List (ByteArray × Int)) (s : ByteArray) (i : Nat) : Option Nat := if ((l.getD i zF).1.toList == s.toList) = true then some i else none
def hitT (l : List (ByteArray × List (ByteArray × Int))) (s : ByteArray) (i : Nat) : Option Nat := if ((l.getD i zT).1.toList == s.toList) = true then some i else none
theorem F109_eq (k : Nat) (a : ByteArray × Int) (s : ByteArray) (b : Int) (κ : Bool × ByteArray × Int → Option Res) : F109 (k + 1) a s b κ = κ ((a.1.toList == s.toList), (s, b)) := by rw [F109]
theorem L121_eq (l : List (ByteArray × Int)) (hl : l.length ≤ 8) (s : ByteArray) (b : Int) (k : Nat) (hk : 20 ≤ k) (κ K : Int × ByteArray × Int → Option Res) :
    L121_0 k κ l (l.length : Int) 0 s b K = fin (fun i : Nat => κ ((i : Int), (s, b))) (K ((l.length : Int), (s, b))) (find (hitF l s) 0 l.length) :=
  loop_find (hitF l s) (fun i : Nat => κ ((i : Int), (s, b))) (K ((l.length : Int), (s, b))) l.length 2 (fun k j => L121_0 k κ l (l.length : Int) (j : Int) s b K) (fun k j hk hj => by
    obtain ⟨k, rfl⟩ : ∃ k', k = k' + 1 := ⟨k - 1, by omega⟩
    show L121_0 (k + 1 + 1) κ l _ (j : Int) s b K = _
    rw [L121_0]
    simp only [lt_t hj, rng hj, F109_eq, Int.toNat_natCast, wr hj (by omega), if_true]
    unfold hitF
    by_cases h : ((l.getD j zF).1.toList == s.toList) = true
    · rw [if_pos h, if_pos h]; rfl
    · rw [if_neg h, if_neg h]; rfl) (fun k => by
    show L121_0 (k + 1) κ l _ ((l.length : Nat) : Int) s b K = _
    rw [L121_0]
    simp only [lt_f, Bool.false_eq_true, if_false]) l.length 0 k (by omega) (by omega)
theorem F108_eq (l : List (ByteArray × Int)) (hl : l.length ≤ 8) (s : ByteArray) (b : Int) (k : Nat) (hk : 24 ≤ k) (κ : Bool × ByteArray × Int → Option Res) :
    F108 k l s b κ = κ ((find (hitF l s) 0 l.length).isSome, (s, b)) := by
  obtain ⟨k, rfl⟩ : ∃ k', k = k' + 2 := ⟨k - 2, by omega⟩
  rw [F108, F121]
  rw [L121_eq l hl s b k (by omega)]
  cases find (hitF l s) 0 l.length with
  | none => simp [fin]
  | some i => simp [fin]
def badF (l : List (ByteArray × Int)) (j : Nat) : Option Nat :=
  if (!nameB (l.getD j zF).1) = true then some 0 else if decide ((l.getD j zF).2 < 1) = true then some 0 else if decide ((l.getD j zF).2 > 3) = true then some 0 else
    if (find (hitF l (l.getD j zF).1) 0 j).isSome = true then some 0 else none
theorem hitF_take (l : List (ByteArray × Int)) (s : ByteArray) (j : Nat) (hj : j ≤ l.length) : find (hitF ((l.take j).drop 0) s) 0 ((l.take j).drop 0).length = find (hitF l s) 0 j := by
  rw [List.drop_zero, List.length_take, Nat.min_eq_left hj]
  refine find_congr _ _ fun i _ hi => ?_
  unfold hitF
  have : (l.take j).getD i zF = l.getD i zF := by rw [List.getD_eq_getElem?_getD, List.getD_eq_getElem?_getD, List.getElem?_take, if_pos (by omega)]
  rw [this]
theorem L80_eq (l : List (ByteArray × Int)) (hl : l.length ≤ 8) (k : Nat) (hk : 80 ≤ k) (κ : Bool → Option Res) (K : Int → Option Res) :
    L80_0 k κ l l (l.length : Int) 0 K = fin (fun _ : Nat => κ false) (K (l.length : Int)) (find (badF l) 0 l.length) :=
  loop_find (badF l) (fun _ : Nat => κ false) (K (l.length : Int)) l.length 62 (fun k j => L80_0 k κ l l (l.length : Int) (j : Int) K) (fun k j hk hj => by
    obtain ⟨k, rfl⟩ : ∃ k', k = k' + 1 := ⟨k - 1, by omega⟩
    show L80_0 (k + 1 + 1) κ l l _ (j : Int) K = _
    rw [L80_0]
    simp only [lt_t hj, rng hj, rngE (Nat.le_of_lt hj), Int.toNat_natCast, wr hj (by omega), if_true]
    rw [F16_eq _ k (by omega)]
    unfold badF
    by_cases h1 : (!nameB (l.getD j zF).1) = true
    · rw [if_pos h1, if_pos h1]; rfl
    rw [if_neg h1, if_neg h1]
    by_cases h2 : decide ((l.getD j zF).2 < 1) = true
    · rw [if_pos h2, if_pos h2]; rfl
    rw [if_neg h2, if_neg h2]
    by_cases h3 : decide ((l.getD j zF).2 > 3) = true
    · rw [if_pos h3, if_pos h3]; rfl
    rw [if_neg h3, if_neg h3, F108_eq _ (by simp; omega) _ _ _ (by omega)]
    show (if (find (hitF ((l.take j).drop 0) _) 0 ((l.take j).drop 0).length).isSome = true then _ else _) = _
    rw [hitF_take l _ j (by omega)]
    by_cases h4 : (find (hitF l (l.getD j zF).1) 0 j).isSome = true
    · rw [if_pos h4, if_pos h4]; rfl
    · rw [if_neg h4, if_neg h4]; rfl) (fun k => by
    show L80_0 (k + 1) κ l l _ ((l.length : Nat) : Int) K = _
    rw [L80_0]
    simp only [lt_f, Bool.false_eq_true, if_false]) l.length 0 k (by omega) (by omega)
theorem F80_eq (l : List (ByteArray × Int)) (hl : l.length ≤ 8) (k : Nat) (hk : 81 ≤ k) (κ : Bool → Option Res) : F80 k l κ = κ (find (badF l) 0 l.length).isNone := by
  obtain ⟨k, rfl⟩ : ∃ k', k = k' + 1 := ⟨k - 1, by omega⟩
  rw [F80, if_neg (by simp; omega), L80_eq l hl k (by omega)]
  cases find (badF l) 0 l.length <;> rfl
/-! finding a type -/
theorem L23_eq (l : List (ByteArray × List (ByteArray × Int))) (hl : l.length ≤ 16) (hf : ∀ i, (l.getD i zT).2.length ≤ 8) (s c : ByteArray) (d : List (ByteArray × Int)) (k : Nat) (hk : 20 ≤ k)
    (κ : (ByteArray × List (ByteArray × Int)) × Bool × List (ByteArray × List (ByteArray × Int)) → Option Res) (K : Int → Option Res) :
    L23_0 k κ s (l.length : Int) 0 c d l K = fin (fun i : Nat => κ (l.getD i zT, (true, l))) (K (l.length : Int)) (find (hitT l s) 0 l.length) :=
  loop_find (hitT l s) (fun i : Nat => κ (l.getD i zT, (true, l))) (K (l.length : Int)) l.length 0 (fun k j => L23_0 k κ s (l.length : Int) (j : Int) c d l K) (fun k j hk hj => by
    show L23_0 (k + 1) κ s _ (j : Int) c d l K = _
    rw [L23_0]
    have h9 : decide ((l.getD j zT).2.length ≤ 1000000) = true := by have := hf j; exact decide_eq_true (by omega)
    simp only [lt_t hj, rng hj, Int.toNat_natCast, wr hj (by omega), if_true, decide_eq_true hj, h9]
    unfold hitT
    by_cases h : ((l.getD j zT).1.toList == s.toList) = true
    · rw [if_pos h, if_pos h]; rfl
    · rw [if_neg h, if_neg h]; rfl) (fun k => by
    show L23_0 (k + 1) κ s _ ((l.length : Nat) : Int) c d l K = _
    rw [L23_0]
    simp only [lt_f, Bool.false_eq_true, if_false]) l.length 0 k (by omega) (by omega)
theorem F23_eq (l : List (ByteArray × List (ByteArray × Int))) (hl : l.length ≤ 16) (hf : ∀ i, (l.getD i zT).2.length ≤ 8) (s : ByteArray) (k : Nat) (hk : 21 ≤ k)
    (κ : (ByteArray × List (ByteArray × Int)) × Bool × List (ByteArray × List (ByteArray × Int)) → Option Res) :
    F23 k s l κ = fin (fun i : Nat => κ (l.getD i zT, (true, l))) (κ (zT, (false, l))) (find (hitT l s) 0 l.length) := by
  obtain ⟨k, rfl⟩ : ∃ k', k = k' + 1 := ⟨k - 1, by omega⟩
  rw [F23, L23_eq l hl hf s _ _ k (by omega)]
def badT (l : List (ByteArray × List (ByteArray × Int))) (i : Nat) : Option Int :=
  if (!nameB (l.getD i zT).1) = true then some 1 else if (find (badF (l.getD i zT).2) 0 (l.getD i zT).2.length).isNone = false then some 1 else
    if (find (hitT l (l.getD i zT).1) 0 i).isSome = true then some 4 else none
theorem hitT_take (l : List (ByteArray × List (ByteArray × Int))) (s : ByteArray) (j : Nat) (hj : j ≤ l.length) : find (hitT (l.take j) s) 0 (l.take j).length = find (hitT l s) 0 j := by
  rw [List.length_take, Nat.min_eq_left hj]
  refine find_congr _ _ fun i _ hi => ?_
  unfold hitT
  have : (l.take j).getD i zT = l.getD i zT := by rw [List.getD_eq_getElem?_getD, List.getD_eq_getElem?_getD, List.getElem?_take, if_pos (by omega)]
  rw [this]
theorem take_getD (l : List (ByteArray × List (ByteArray × Int))) (j : Nat) (hj : j < l.length) : l.take j ++ [l.getD j zT] = l.take (j + 1) := by
  rw [List.take_add_one, List.getD_eq_getElem?_getD, List.getElem?_eq_getElem hj]; rfl
theorem L19_eq (l : List (ByteArray × List (ByteArray × Int))) (hl : l.length ≤ 16) (hf : ∀ i, (l.getD i zT).2.length ≤ 8) (k : Nat) (hk : 101 ≤ k) (κ : Int → Option Res)
    (κ1 K : Int × List (ByteArray × List (ByteArray × Int)) → Option Res) :
    L19_0 k κ κ1 l (l.length : Int) 0 [] K = fin κ (K ((l.length : Int), l)) (find (badT l) 0 l.length) :=
  loop_find (badT l) κ (K ((l.length : Int), l)) l.length 84 (fun k j => L19_0 k κ κ1 l (l.length : Int) (j : Int) (l.take j) K) (fun k j hk hj => by
    obtain ⟨k, rfl⟩ : ∃ k', k = k' + 1 := ⟨k - 1, by omega⟩
    show L19_0 (k + 1 + 1) κ κ1 l _ (j : Int) (l.take j) K = _
    rw [L19_0]
    have h9 : decide ((l.getD j zT).2.length ≤ 1000000) = true := by have := hf j; exact decide_eq_true (by omega)
    have hft : ∀ i, ((l.take j).getD i zT).2.length ≤ 8 := fun i => by
      rw [List.getD_eq_getElem?_getD, List.getElem?_take]
      split
      · rw [← List.getD_eq_getElem?_getD]; exact hf i
      · simp
    have h8 : decide (((l.take j).length + [l.getD j zT].length) * 40 ≤ 140737488355328) = true := by
      rw [List.length_take]; simp; omega
    simp only [lt_t hj, rng hj, Int.toNat_natCast, wr hj (by omega), if_true]
    rw [F16_eq _ k (by omega)]
    unfold badT
    by_cases h1 : (!nameB (l.getD j zT).1) = true
    · rw [if_pos h1, if_pos h1]; rfl
    rw [if_neg h1, if_neg h1, F80_eq _ (hf j) _ (by omega)]
    cases h2 : (find (badF (l.getD j zT).2) 0 (l.getD j zT).2.length).isNone with
    | false => rfl
    | true =>
      rw [if_neg (show ¬ (!true) = true by simp), if_neg (show ¬ true = false by simp), F23_eq (l.take j) (by rw [List.length_take]; omega) hft _ _ (by omega), hitT_take l _ j (by omega)]
      cases find (hitT l (l.getD j zT).1) 0 j with
      | some i => rfl
      | none =>
        simp only [fin, h9, h8, if_true, Bool.false_eq_true, if_false, Option.isSome_none, take_getD l j hj, decide_eq_true (Int.natCast_nonneg j), Bool.and_true]) (fun k => by
    show L19_0 (k + 1) κ κ1 l _ ((l.length : Nat) : Int) (l.take l.length) K = _
    rw [L19_0]
    simp only [lt_f, Bool.false_eq_true, if_false, List.take_length]) l.length 0 k (by omega) (by omega)
theorem F19_eq (l : List (ByteArray × List (ByteArray × Int))) (hl : l.length ≤ 16) (hf : ∀ i, (l.getD i zT).2.length ≤ 8) (k : Nat) (hk : 102 ≤ k) (κ : Int → Option Res)
    (κ1 : Int × List (ByteArray × List (ByteArray × Int)) → Option Res) : F19 k l κ κ1 = fin κ (κ1 (0, l)) (find (badT l) 0 l.length) := by
  obtain ⟨k, rfl⟩ : ∃ k', k = k' + 1 := ⟨k - 1, by omega⟩
  rw [F19, if_neg (by simp; omega), L19_eq l hl hf k (by omega)]
end Go.Proofs.Ytcnoaflojojfkac.SchM
