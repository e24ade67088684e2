/- What is a name, by the program and by the law. No condition. -/
import Derived.Test.YtcnoaflojojfkacSchF
import Derived.Laws.Strings
import Derived.Test.YtcnoaflojojfkacBits
import Derived.KernelRfl
namespace Go.Proofs.Ytcnoaflojojfkac.SchF
open Go Go.Proofs.Ytcnoaflojojfkac.Vm
set_option linter.unusedVariables false
set_option linter.unusedSimpArgs false
set_option maxRecDepth 100000
/-- may it stand in a name -/
def letB (c : Int) : Bool := (decide (97 ≤ c) && decide (c ≤ 122)) || (decide (65 ≤ c) && decide (c ≤ 90)) || decide (c = 95)
def okB (c : Int) : Bool := letB c || (decide (48 ≤ c) && decide (c ≤ 57))
def chk (s : ByteArray) : Nat → Nat → Bool
  | _, 0 => true
  | i, m + 1 => okB (byteAt s i) && chk s (i + 1) m
theorem F79_eq (k : Nat) (c : Int) (κ : Bool → Option Res) : F79 (k + 1) c κ = κ (letB c) := by
  have hb : (c == 95) = decide (c = 95) := by by_cases h : c = 95 <;> simp [h]
  rw [F79, hb]
  unfold letB
  by_cases h1 : 97 ≤ c <;> by_cases h2 : c ≤ 122 <;> by_cases h3 : 65 ≤ c <;> by_cases h4 : c ≤ 90 <;> simp [h1, h2, h3, h4, ge_iff_le] <;> (try omega) <;> (try (congr 1; rw [Bool.eq_iff_iff]; simp))
theorem wrap_small {x : Int} (h0 : -9223372036854775808 ≤ x) (h1 : x ≤ 9223372036854775807) : IntKind.wrap .i64 x = x := by
  rw [IntKind.wrap_i64]; omega
theorem L16_0_eq (s : ByteArray) (hs : s.size ≤ 1000) : ∀ (m p k : Nat) (κ : Bool → Option Res) (K : Int → Option Res), p + m = s.size → m + 2 ≤ k →
    L16_0 k κ s (s.size : Int) (p : Int) K = if chk s p m = true then K (s.size : Int) else κ false := by
  intro m
  induction m with
  | zero =>
    intro p k κ K hp hk
    obtain ⟨k, rfl⟩ : ∃ k', k = k' + 1 := ⟨k - 1, by omega⟩
    unfold L16_0
    have : ¬ ((p : Int) < (s.size : Int)) := by omega
    rw [if_neg (by simpa using this)]
    have : p = s.size := by omega
    subst this
    rfl
  | succ m ih =>
    intro p k κ K hp hk
    obtain ⟨k, rfl⟩ : ∃ k', k = k' + 2 := ⟨k - 2, by omega⟩
    show L16_0 (k + 1 + 1) κ s (s.size : Int) (p : Int) K = _
    unfold L16_0
    have h1 : (p : Int) < (s.size : Int) := by omega
    rw [if_pos (by simpa using h1), if_pos (by simp; omega), F79_eq]
    have hw : IntKind.wrap .i64 ((p : Int) + 1) = ((p + 1 : Nat) : Int) := by rw [wrap_small (by omega) (by omega)]; omega
    rw [hw, ih (p + 1) (k + 1) κ K (by omega) (by omega)]
    show _ = if (okB (byteAt s p) && chk s (p + 1) m) = true then _ else _
    unfold okB
    cases hl : letB (byteAt s (p : Int)) with
    | true => simp
    | false =>
      by_cases h2 : byteAt s (p : Int) < 48
      · simp [h2, show ¬ 48 ≤ byteAt s (p : Int) by omega]
      · by_cases h3 : byteAt s (p : Int) > 57
        · simp [h2, h3, show ¬ byteAt s (p : Int) ≤ 57 by omega]
        · simp [h2, h3, show 48 ≤ byteAt s (p : Int) by omega, show byteAt s (p : Int) ≤ 57 by omega]
theorem L17_step (s : ByteArray) (p : Nat) (hp : p < s.size) (hs : s.size ≤ 1000) (k : Nat) (κ : Bool → Option Res) (K : Int → Option Res) :
    L17_0 (k + 1) κ s (p : Int) K = if letB (byteAt s p) = true then L17_0 k κ s ((p + 1 : Nat) : Int) K else if p = 0 then κ false else if okB (byteAt s p) = true then L17_0 k κ s ((p + 1 : Nat) : Int) K else κ false := by
  have h1 : (p : Int) < (s.size : Int) := by omega
  have hw : IntKind.wrap .i64 ((p : Int) + 1) = ((p + 1 : Nat) : Int) := by rw [wrap_small (by omega) (by omega)]; omega
  rw [L17_0]
  rw [if_pos (by simpa using h1), if_pos (by simp; omega), hw]
  have h0 : ((p : Int) == 0) = decide (p = 0) := by
    by_cases h : p = 0
    · subst h; rfl
    · simp [h]
  have hb : ∀ c : Int, (c == 95) = decide (c = 95) := fun c => by by_cases h : c = 95 <;> simp [h]
  rw [h0, hb]
  unfold okB letB
  generalize byteAt s (p : Int) = c
  have e7 : decide (48 ≤ c) = !decide (c < 48) := by by_cases h : c < 48 <;> simp [h] <;> omega
  have e8 : decide (c ≤ 57) = !decide (c > 57) := by by_cases h : c > 57 <;> simp [h] <;> omega
  rw [e7, e8]
  generalize L17_0 k κ s ((p + 1 : Nat) : Int) K = R
  by_cases h1 : 97 ≤ c <;> by_cases h2 : c ≤ 122 <;> by_cases h3 : 65 ≤ c <;> by_cases h4 : c ≤ 90 <;> by_cases h5 : c = 95 <;> by_cases h6 : p = 0 <;> by_cases h7 : c < 48 <;> by_cases h8 : c > 57 <;>
    simp [h1, h2, h3, h4, h5, h6, h7, h8, ge_iff_le] <;> (try omega)
theorem L17_0_eq (s : ByteArray) (hs : s.size ≤ 1000) : ∀ (m p k : Nat) (κ : Bool → Option Res) (K : Int → Option Res), 0 < p → p + m = s.size → m + 2 ≤ k →
    L17_0 k κ s (p : Int) K = if chk s p m = true then K (s.size : Int) else κ false := by
  intro m
  induction m with
  | zero =>
    intro p k κ K h0 hp hk
    obtain ⟨k, rfl⟩ : ∃ k', k = k' + 1 := ⟨k - 1, by omega⟩
    unfold L17_0
    have : ¬ ((p : Int) < (s.size : Int)) := by omega
    rw [if_neg (by simpa using this)]
    have : p = s.size := by omega
    subst this
    rfl
  | succ m ih =>
    intro p k κ K h0 hp hk
    obtain ⟨k, rfl⟩ : ∃ k', k = k' + 1 := ⟨k - 1, by omega⟩
    rw [L17_step s p (by omega) hs, ih (p + 1) k κ K (by omega) (by omega) (by omega), if_neg (by omega : ¬ p = 0)]
    show _ = if (okB (byteAt s p) && chk s (p + 1) m) = true then _ else _
    have hlo : letB (byteAt s p) = true → okB (byteAt s p) = true := fun h => by unfold okB; rw [h]; rfl
    cases hl : letB (byteAt s (p : Int)) with
    | true => rw [hlo hl]; simp
    | false =>
      cases ho : okB (byteAt s (p : Int)) <;> simp
/-! words -/
def words : List ByteArray := [⟨#[83, 69, 81]⟩, ⟨#[87, 72, 69, 82, 69]⟩, ⟨#[87, 73, 84, 72, 73, 78]⟩, ⟨#[67, 65, 80]⟩, ⟨#[97, 110, 100]⟩, ⟨#[111, 114]⟩, ⟨#[110, 111, 116]⟩, ⟨#[116, 114, 117, 101]⟩, ⟨#[102, 97, 108, 115, 101]⟩]
def big : ByteArray := ⟨#[32, 83, 69, 81, 32, 87, 72, 69, 82, 69, 32, 87, 73, 84, 72, 73, 78, 32, 67, 65, 80, 32, 97, 110, 100, 32, 111, 114, 32, 110, 111, 116, 32, 116, 114, 117, 101, 32, 102, 97, 108, 115, 101, 32]⟩
def isW (s : ByteArray) : List ByteArray → Bool
  | [] => false
  | w :: l => (s.toList == w.toList) || isW s l
theorem L17_1_eq (s : ByteArray) (ws : List ByteArray) (hw : ws.length ≤ 1000) : ∀ (m p k : Nat) (κ : Bool → Option Res) (K : Int → Option Res), p + m = ws.length → m + 2 ≤ k →
    L17_1 k κ s ws (ws.length : Int) (p : Int) K = if isW s (ws.drop p) = true then κ false else K (ws.length : Int) := by
  intro m
  induction m with
  | zero =>
    intro p k κ K hp hk
    obtain ⟨k, rfl⟩ : ∃ k', k = k' + 1 := ⟨k - 1, by omega⟩
    unfold L17_1
    have : ¬ ((p : Int) < (ws.length : Int)) := by omega
    rw [if_neg (by simpa using this), List.drop_eq_nil_of_le (by omega)]
    have : p = ws.length := by omega
    subst this
    rfl
  | succ m ih =>
    intro p k κ K hp hk
    obtain ⟨k, rfl⟩ : ∃ k', k = k' + 1 := ⟨k - 1, by omega⟩
    unfold L17_1
    have h1 : (p : Int) < (ws.length : Int) := by omega
    have hlt : p < ws.length := by omega
    have hwr : IntKind.wrap .i64 ((p : Int) + 1) = ((p + 1 : Nat) : Int) := by rw [wrap_small (by omega) (by omega)]; omega
    rw [if_pos (by simpa using h1), if_pos (by simp; omega), hwr, ih (p + 1) k κ K (by omega) (by omega), List.drop_eq_getElem_cons hlt]
    have hg : ws.getD (p : Int).toNat (⟨#[]⟩ : ByteArray) = ws[p] := by
      rw [Int.toNat_natCast, List.getD_eq_getElem?_getD, List.getElem?_eq_getElem hlt]; rfl
    rw [hg]
    show _ = if ((s.toList == ws[p].toList) || isW s (ws.drop (p + 1))) = true then _ else _
    cases (s.toList == ws[p].toList) <;> simp
/-- does it stand between two spaces in the long text, from some place on -/
def occ (s : ByteArray) : Nat → Nat → Bool
  | _, 0 => false
  | i, m + 1 => ((big.extract i (i + s.size + 2)).toList == (((⟨#[32]⟩ : ByteArray) ++ s) ++ (⟨#[32]⟩ : ByteArray)).toList) || occ s (i + 1) m
theorem L16_1_eq (s : ByteArray) (hs : s.size ≤ 16) : ∀ (m p k : Nat) (κ : Bool → Option Res) (K : Int → Option Res), p + m = 43 - s.size → m + 2 ≤ k →
    L16_1 k κ s ((43 - s.size : Nat) : Int) (p : Int) K = if occ s p m = true then κ false else K ((43 - s.size : Nat) : Int) := by
  intro m
  induction m with
  | zero =>
    intro p k κ K hp hk
    obtain ⟨k, rfl⟩ : ∃ k', k = k' + 1 := ⟨k - 1, by omega⟩
    unfold L16_1
    have : ¬ ((p : Int) < ((43 - s.size : Nat) : Int)) := by omega
    rw [if_neg (by simpa using this)]
    have : p = 43 - s.size := by omega
    subst this
    rfl
  | succ m ih =>
    intro p k κ K hp hk
    obtain ⟨k, rfl⟩ : ∃ k', k = k' + 1 := ⟨k - 1, by omega⟩
    unfold L16_1
    have h1 : (p : Int) < ((43 - s.size : Nat) : Int) := by omega
    have hwr : IntKind.wrap .i64 ((p : Int) + 1) = ((p + 1 : Nat) : Int) := by rw [wrap_small (by omega) (by omega)]; omega
    have hw2 : IntKind.wrap .i64 ((IntKind.wrap .i64 ((p : Int) + (s.size : Int))) + 2) = ((p + s.size + 2 : Nat) : Int) := by
      rw [wrap_small (x := (p : Int) + (s.size : Int)) (by omega) (by omega), wrap_small (by omega) (by omega)]; omega
    have hb : ((⟨#[32, 83, 69, 81, 32, 87, 72, 69, 82, 69, 32, 87, 73, 84, 72, 73, 78, 32, 67, 65, 80, 32, 97, 110, 100, 32, 111, 114, 32, 110, 111, 116, 32, 116, 114, 117, 101, 32, 102, 97, 108, 115, 101, 32]⟩ : ByteArray).size : Int) = 44 := rfl
    have h3 : (⟨#[32]⟩ : ByteArray).size = 1 := rfl
    have h4 : ((⟨#[32]⟩ : ByteArray) ++ s).size = 1 + s.size := by rw [ByteArray.size_append, h3]
    rw [if_pos (by simpa using h1), hw2, hb, if_pos (by simp; omega), h3, h4, if_pos (by simp; omega), if_pos (by simp; omega), hwr, ih (p + 1) k κ K (by omega) (by omega)]
    show (if ((big.extract (p : Int).toNat ((p + s.size + 2 : Nat) : Int).toNat).toList == _) = true then _ else _) = if (((big.extract p (p + s.size + 2)).toList == _) || occ s (p + 1) m) = true then _ else _
    rw [Int.toNat_natCast, Int.toNat_natCast]
    cases ((big.extract p (p + s.size + 2)).toList == (((⟨#[32]⟩ : ByteArray) ++ s) ++ (⟨#[32]⟩ : ByteArray)).toList) <;> simp
/-! the long text and the words -/
def bigL : List UInt8 := [32, 83, 69, 81, 32, 87, 72, 69, 82, 69, 32, 87, 73, 84, 72, 73, 78, 32, 67, 65, 80, 32, 97, 110, 100, 32, 111, 114, 32, 110, 111, 116, 32, 116, 114, 117, 101, 32, 102, 97, 108, 115, 101, 32]
def wordsL : List (List UInt8) := [[83, 69, 81], [87, 72, 69, 82, 69], [87, 73, 84, 72, 73, 78], [67, 65, 80], [97, 110, 100], [111, 114], [110, 111, 116], [116, 114, 117, 101], [102, 97, 108, 115, 101]]
theorem occ_iff (s : ByteArray) : ∀ (m p : Nat), occ s p m = true ↔ ∃ i, p ≤ i ∧ i < p + m ∧ (bigL.drop i).take (s.size + 2) = 32 :: (s.data.toList ++ [32])
  | 0, p => by simp [occ]; intro i h1 h2; omega
  | m + 1, p => by
    unfold occ
    have he : ((big.extract p (p + s.size + 2)).toList == (((⟨#[32]⟩ : ByteArray) ++ s) ++ (⟨#[32]⟩ : ByteArray)).toList) = true ↔ (bigL.drop p).take (s.size + 2) = 32 :: (s.data.toList ++ [32]) := by
      rw [beq_iff_eq, ByteArray.toList_eq, ByteArray.toList_eq]
      have e1 : (big.extract p (p + s.size + 2)).data.toList = (bigL.drop p).take (s.size + 2) := by
        rw [ByteArray.data_extract, Array.toList_extract, List.extract_eq_take_drop, show p + s.size + 2 - p = s.size + 2 by omega]
        rfl
      have e2 : (((⟨#[32]⟩ : ByteArray) ++ s) ++ (⟨#[32]⟩ : ByteArray)).data.toList = 32 :: (s.data.toList ++ [32]) := by
        simp
      rw [e1, e2]
    rw [Bool.or_eq_true, he, occ_iff s m (p + 1)]
    constructor
    · rintro (h | ⟨i, h1, h2, h3⟩)
      · exact ⟨p, Nat.le_refl _, by omega, h⟩
      · exact ⟨i, by omega, by omega, h3⟩
    · rintro ⟨i, h1, h2, h3⟩
      by_cases e : i = p
      · subst e; exact .inl h3
      · exact .inr ⟨i, by omega, by omega, h3⟩
theorem isW_iff (s : ByteArray) : isW s words = true ↔ s.data.toList ∈ wordsL := by
  simp only [isW, words, wordsL, Bool.or_eq_true, beq_iff_eq, ByteArray.toList_eq, List.mem_cons, List.not_mem_nil, or_false, Bool.false_eq_true]
theorem chk_at (s : ByteArray) : ∀ (m p : Nat), chk s p m = true → ∀ i, p ≤ i → i < p + m → okB (byteAt s (i : Int)) = true
  | 0, p, _, i, h1, h2 => by omega
  | m + 1, p, h, i, h1, h2 => by
    simp only [chk, Bool.and_eq_true] at h
    by_cases e : i = p
    · subst e; exact h.1
    · exact chk_at s m (p + 1) h.2 i (by omega) (by omega)
theorem fact1 : ((List.range 17).all fun n => (List.range (43 - n)).all fun i => ((bigL.drop i).take (n + 2)).length != n + 2 || (bigL.getD i 0 != 32) || (bigL.getD (i + 1 + n) 0 != 32) || ((bigL.drop (i + 1)).take n).any (· == 32) || n == 0 || wordsL.contains ((bigL.drop (i + 1)).take n)) = true := by decide +kernel
theorem fact2 : (wordsL.all fun w => (List.range (43 - w.length)).any fun i => (bigL.drop i).take (w.length + 2) == 32 :: (w ++ [32])) = true := by decide +kernel
theorem occ_words (s : ByteArray) (h0 : 0 < s.size) (h16 : s.size ≤ 16) (hc : chk s 0 s.size = true) : occ s 0 (43 - s.size) = isW s words := by
  have hlen : s.data.toList.length = s.size := by simp
  rw [Bool.eq_iff_iff, occ_iff, isW_iff]
  constructor
  · rintro ⟨i, _, h2, h3⟩
    have f := fact1
    rw [List.all_eq_true] at f
    have f := f s.size (List.mem_range.2 (by omega))
    rw [List.all_eq_true] at f
    have f := f i (List.mem_range.2 (by omega))
    have e1 : bigL.drop i = 32 :: bigL.drop (i + 1) := by
      have : ((bigL.drop i).take (s.size + 2))[0]? = some 32 := by rw [h3]; rfl
      rw [List.getElem?_take, if_pos (by omega), List.getElem?_drop, Nat.add_zero] at this
      rw [List.drop_eq_getElem_cons (List.getElem?_eq_some_iff.1 this).1, (List.getElem?_eq_some_iff.1 this).2]
    have e2 : (bigL.drop (i + 1)).take (s.size + 1) = s.data.toList ++ [32] := by
      rw [e1, show s.size + 2 = (s.size + 1) + 1 by omega, List.take_succ_cons] at h3
      exact (List.cons.inj h3).2
    have e3 : (bigL.drop (i + 1)).take s.size = s.data.toList := by
      have := congrArg (List.take s.size) e2
      rw [List.take_take, Nat.min_eq_left (by omega), List.take_left' hlen] at this
      exact this
    have e4 : bigL.getD i 0 = 32 := by
      have : (bigL.drop i)[0]? = some 32 := by rw [e1]; rfl
      rw [List.getElem?_drop, Nat.add_zero] at this
      rw [List.getD_eq_getElem?_getD, this]; rfl
    have e5 : bigL.getD (i + 1 + s.size) 0 = 32 := by
      have : ((bigL.drop (i + 1)).take (s.size + 1))[s.size]? = some 32 := by
        rw [e2, List.getElem?_append_right (by omega), hlen, Nat.sub_self]; rfl
      rw [List.getElem?_take, if_pos (by omega), List.getElem?_drop] at this
      rw [List.getD_eq_getElem?_getD, this]; rfl
    have e6 : ((bigL.drop i).take (s.size + 2)).length = s.size + 2 := by rw [h3]; simp [hlen]
    rw [e3, e4, e5, e6] at f
    have e7 : s.data.toList.any (· == 32) = false := by
      rw [List.any_eq_false]
      intro b hb hb32
      obtain ⟨j, hj⟩ := List.mem_iff_getElem?.1 hb
      have hjl := (List.getElem?_eq_some_iff.1 hj).1
      have hok := chk_at s _ 0 hc j (Nat.zero_le _) (by omega)
      have hb' : byteAt s (j : Int) = 32 := by
        unfold byteAt
        rw [Int.toNat_natCast]
        rw [Array.getElem?_toList] at hj
        rw [hj]
        have : b = 32 := by simpa using hb32
        subst this; rfl
      rw [hb'] at hok
      revert hok; decide
    rw [e7] at f
    have h0' : (s.size == 0) = false := by rw [beq_eq_false_iff_ne]; omega
    rw [h0'] at f
    simpa using f
  · intro h
    have f := fact2
    rw [List.all_eq_true] at f
    have f := f _ h
    rw [List.any_eq_true] at f
    obtain ⟨i, h1, h2⟩ := f
    rw [hlen] at h1 h2
    exact ⟨i, Nat.zero_le _, by have := List.mem_range.1 h1; omega, by simpa using h2⟩
def nameB (s : ByteArray) : Bool := decide (0 < s.size) && (decide (s.size ≤ 16) && (letB (byteAt s 0) && (chk s 1 (s.size - 1) && !isW s words)))
theorem empty_iff (s : ByteArray) : (s.toList == (⟨#[]⟩ : ByteArray).toList) = decide (s.size = 0) := by
  rw [ByteArray.toList_eq, ByteArray.toList_eq, Bool.eq_iff_iff, beq_iff_eq, decide_eq_true_iff]
  have : s.size = s.data.toList.length := by simp
  rw [this]
  exact ⟨fun h => by rw [h]; rfl, fun h => List.eq_nil_of_length_eq_zero h⟩
theorem F16_eq (s : ByteArray) (k : Nat) (hk : 60 ≤ k) (κ : Bool → Option Res) : F16 (k + 1) s κ = κ (nameB s) := by
  rw [F16, empty_iff]
  unfold nameB
  by_cases h0 : s.size = 0
  · simp [h0]
  · by_cases h16 : s.size ≤ 16
    · obtain ⟨k', rfl⟩ : ∃ k', k = k' + 1 := ⟨k - 1, by omega⟩
      have e1 : decide ((s.size : Int) > 16) = false := by simp; omega
      have e2 : decide ((0 : Int) < (s.size : Int)) = true := by simp; omega
      have e3 : decide (s.size = 0) = false := by simpa using h0
      have e4 : decide (0 < s.size) = true := by simp; omega
      have e5 : decide (s.size ≤ 16) = true := by simpa using h16
      rw [e1, e2, e3, e4, e5, if_neg (by simp), if_neg (by simp), if_pos rfl, F79_eq]
      have hw : IntKind.wrap .i64 ((IntKind.wrap .i64 ((44 : Int) - (s.size : Int))) - (1 : Int)) = ((43 - s.size : Nat) : Int) := by
        rw [wrap_small (x := (44 : Int) - (s.size : Int)) (by omega) (by omega), wrap_small (by omega) (by omega)]; omega
      have h1 := L16_0_eq s (by omega) s.size 0 (k' + 1) κ (fun v3 => L16_1 (k' + 1) κ s ((43 - s.size : Nat) : Int) 0 fun v4 => κ true) (by omega) (by omega)
      have h2 := L16_1_eq s h16 (43 - s.size) 0 (k' + 1) κ (fun _ => κ true) (by omega) (by omega)
      have hc : chk s 0 s.size = (okB (byteAt s 0) && chk s 1 (s.size - 1)) := by
        obtain ⟨m, hm⟩ : ∃ m, s.size = m + 1 := ⟨s.size - 1, by omega⟩
        rw [hm]; rfl
      rw [hw]
      cases hl : letB (byteAt s 0) with
      | false => rfl
      | true =>
        have hok : okB (byteAt s 0) = true := by unfold okB; rw [hl]; rfl
        rw [hok, Bool.true_and] at hc
        rw [if_neg (by simp)]
        refine h1.trans ?_
        rw [hc]
        cases hch : chk s 1 (s.size - 1) with
        | false => rfl
        | true =>
          rw [if_pos rfl]
          refine h2.trans ?_
          rw [occ_words s (by omega) h16 (by rw [hc]; exact hch)]
          cases isW s words <;> rfl
    · have e3 : decide (s.size = 0) = false := by simpa using h0
      have e5 : decide (s.size ≤ 16) = false := by simpa using h16
      have e1 : decide ((s.size : Int) > 16) = true := by simp; omega
      rw [e1, e3, e5]
      simp
theorem F17_eq (s : ByteArray) (k : Nat) (hk : 60 ≤ k) (κ : Bool → Option Res) : F17 (k + 1) s κ = κ (nameB s) := by
  rw [F17, empty_iff]
  unfold nameB
  by_cases h0 : s.size = 0
  · simp [h0]
  · by_cases h16 : s.size ≤ 16
    · obtain ⟨k', rfl⟩ : ∃ k', k = k' + 1 := ⟨k - 1, by omega⟩
      have e1 : decide ((s.size : Int) > 16) = false := by simp; omega
      have e3 : decide (s.size = 0) = false := by simpa using h0
      have e4 : decide (0 < s.size) = true := by simp; omega
      have e5 : decide (s.size ≤ 16) = true := by simpa using h16
      rw [e1, e3, e4, e5, if_neg (by simp), if_neg (by simp)]
      show L17_0 (k' + 1) κ s ((0 : Nat) : Int) (fun v1 => L17_1 (k' + 1) κ s words (words.length : Int) ((0 : Nat) : Int) fun v2 => κ true) = _
      rw [L17_step s 0 (by omega) (by omega), L17_0_eq s (by omega) (s.size - 1) 1 k' κ _ (by omega) (by omega) (by omega), L17_1_eq s words (by decide) 9 0 (k' + 1) κ _ (by rfl) (by omega), if_pos rfl]
      rw [List.drop_zero]
      show (if letB (byteAt s 0) = true then _ else _) = _
      cases letB (byteAt s 0) with
      | false => rfl
      | true =>
        cases chk s 1 (s.size - 1) with
        | false => rfl
        | true => cases isW s words <;> rfl
    · have e3 : decide (s.size = 0) = false := by simpa using h0
      have e5 : decide (s.size ≤ 16) = false := by simpa using h16
      have e1 : decide ((s.size : Int) > 16) = true := by simp; omega
      rw [e1, e3, e5]
      simp
end Go.Proofs.Ytcnoaflojojfkac.SchF
