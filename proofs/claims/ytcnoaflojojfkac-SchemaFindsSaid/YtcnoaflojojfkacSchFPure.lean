/- SchemaFinds as a function over lists and numbers: it is true of all types and numbers. No condition. -/
import Derived.Test.YtcnoaflojojfkacSchFName
import Derived.Laws.StructEq
namespace Go.Proofs.Ytcnoaflojojfkac.SchF
open Go Go.Proofs.Ytcnoaflojojfkac.Vm
set_option linter.unusedVariables false
set_option linter.unusedSimpArgs false
set_option maxRecDepth 100000
theorem lt_t {j n : Nat} (h : j < n) : decide ((j : Int) < (n : Int)) = true := by simpa using h
theorem lt_f (n : Nat) : decide ((n : Int) < (n : Int)) = false := by simp
theorem rng {j n : Nat} (h : j < n) : (decide ((0 : Int) ≤ (j : Int)) && decide ((j : Int) < (n : Int))) = true := by simp; omega
theorem rngE {j n : Nat} (h : j ≤ n) : (decide ((0 : Int) ≤ (j : Int)) && decide ((j : Int) ≤ (n : Int))) = true := by simp; omega
theorem wr {j n : Nat} (h : j < n) (hn : n ≤ 1000) : IntKind.wrap .i64 ((j : Int) + 1) = ((j + 1 : Nat) : Int) := by rw [wrap_small (by omega) (by omega)]; omega
def find {α : Type} (t : Nat → Option α) : Nat → Nat → Option α
  | _, 0 => none
  | j, m + 1 => match t j with
    | some c => some c
    | none => find t (j + 1) m
theorem find_congr {α : Type} {t t' : Nat → Option α} : ∀ m j, (∀ i, j ≤ i → i < j + m → t i = t' i) → find t j m = find t' j m
  | 0, _, _ => rfl
  | m + 1, j, h => by
    unfold find
    rw [h j (Nat.le_refl _) (by omega), find_congr m (j + 1) (fun i h1 h2 => h i (by omega) (by omega))]
theorem find_none {α : Type} {t : Nat → Option α} : ∀ m j, find t j m = none → ∀ i, j ≤ i → i < j + m → t i = none
  | 0, j, _, i, h1, h2 => by omega
  | m + 1, j, h, i, h1, h2 => by
    unfold find at h
    split at h
    · cases h
    · rename_i e
      by_cases hi : i = j
      · rw [hi]; exact e
      · exact find_none m (j + 1) h i (by omega) (by omega)
theorem find_all {α : Type} {t : Nat → Option α} : ∀ m j, (∀ i, j ≤ i → i < j + m → t i = none) → find t j m = none
  | 0, _, _ => rfl
  | m + 1, j, h => by
    unfold find
    rw [h j (Nat.le_refl _) (by omega)]
    exact find_all m (j + 1) (fun i h1 h2 => h i (by omega) (by omega))
theorem find_first {α : Type} {t : Nat → Option α} {c : α} : ∀ m j i, j ≤ i → i < j + m → t i = some c → (∀ q, j ≤ q → q < i → t q = none) → find t j m = some c
  | 0, j, i, h1, h2, _, _ => by omega
  | m + 1, j, i, h1, h2, h3, h4 => by
    unfold find
    by_cases hi : i = j
    · subst hi; rw [h3]
    · rw [h4 j (Nat.le_refl _) (by omega)]
      exact find_first m (j + 1) i (by omega) (by omega) h3 (fun q a b => h4 q (by omega) b)
def fin {α R : Type} (f : α → R) (e : R) : Option α → R
  | some c => f c
  | none => e
theorem loop_find {α R : Type} (t : Nat → Option α) (f : α → R) (e : R) (n N : Nat) (S : Nat → Nat → R) (hs : ∀ k j, N ≤ k → j < n → S (k + 1) j = fin f (S k (j + 1)) (t j)) (he : ∀ k, S (k + 1) n = e) :
    ∀ m j k, j + m = n → m + 1 + N ≤ k → S k j = fin f e (find t j m) := by
  intro m
  induction m with
  | zero =>
    intro j k hj hk
    obtain ⟨k, rfl⟩ : ∃ k', k = k' + 1 := ⟨k - 1, by omega⟩
    have : j = n := by omega
    subst this
    rw [he]; rfl
  | succ m ih =>
    intro j k hj hk
    obtain ⟨k, rfl⟩ : ∃ k', k = k' + 1 := ⟨k - 1, by omega⟩
    rw [hs k j (by omega) (by omega), ih (j + 1) k (by omega) (by omega)]
    show _ = fin f e (match t j with | some c => some c | none => find t (j + 1) m)
    cases t j <;> rfl
abbrev Fld := ByteArray × Int
abbrev Typ := ByteArray × List (ByteArray × Int)
abbrev zF : ByteArray × Int := ((⟨#[]⟩ : ByteArray), (0 : Int))
abbrev zT : ByteArray × List (ByteArray × Int) := ((⟨#[]⟩ : ByteArray), ([] : List (ByteArray × Int)))
def hitF (l : List (ByteArray × Int)) (s : ByteArray) (i : Nat) : Option Nat := if ((l.getD i zF).1.toList == s.toList) = true then some i else none
def hitT (l : List (ByteArray × List (ByteArray × Int))) (s : ByteArray) (i : Nat) : Option Nat := if ((l.getD i zT).1.toList == s.toList) = true then some i else none
theorem F109_eq (k : Nat) (a : ByteArray × Int) (s : ByteArray) (b : Int) (κ : Bool × ByteArray × Int → Option Res) : F109 (k + 1) a s b κ = κ ((a.1.toList == s.toList), (s, b)) := by rw [F109]
theorem L121_eq (l : List (ByteArray × Int)) (hl : l.length ≤ 8) (s : ByteArray) (b : Int) (k : Nat) (hk : 20 ≤ k) (κ K : Int × ByteArray × Int → Option Res) :
    L121_0 k κ l (l.length : Int) 0 s b K = fin (fun i : Nat => κ ((i : Int), (s, b))) (K ((l.length : Int), (s, b))) (find (hitF l s) 0 l.length) :=
  loop_find (hitF l s) (fun i : Nat => κ ((i : Int), (s, b))) (K ((l.length : Int), (s, b))) l.length 2 (fun k j => L121_0 k κ l (l.length : Int) (j : Int) s b K) (fun k j hk hj => by
    obtain ⟨k, rfl⟩ : ∃ k', k = k' + 1 := ⟨k - 1, by omega⟩
    show L121_0 (k + 1 + 1) κ l _ (j : Int) s b K = _
    rw [L121_0]
    simp only [lt_t hj, rng hj, F109_eq, Int.toNat_natCast, wr hj (by omega), if_true]
    unfold hitF
    by_cases h : ((l.getD j zF).1.toList == s.toList) = true
    · rw [if_pos h, if_pos h]; rfl
    · rw [if_neg h, if_neg h]; rfl) (fun k => by
    show L121_0 (k + 1) κ l _ ((l.length : Nat) : Int) s b K = _
    rw [L121_0]
    simp only [lt_f, Bool.false_eq_true, if_false]) l.length 0 k (by omega) (by omega)
theorem F108_eq (l : List (ByteArray × Int)) (hl : l.length ≤ 8) (s : ByteArray) (b : Int) (k : Nat) (hk : 24 ≤ k) (κ : Bool × ByteArray × Int → Option Res) :
    F108 k l s b κ = κ ((find (hitF l s) 0 l.length).isSome, (s, b)) := by
  obtain ⟨k, rfl⟩ : ∃ k', k = k' + 2 := ⟨k - 2, by omega⟩
  rw [F108, F121]
  rw [L121_eq l hl s b k (by omega)]
  cases find (hitF l s) 0 l.length with
  | none => simp [fin]
  | some i => simp [fin]
def badF (l : List (ByteArray × Int)) (j : Nat) : Option Nat :=
  if (!nameB (l.getD j zF).1) = true then some 0 else if decide ((l.getD j zF).2 < 1) = true then some 0 else if decide ((l.getD j zF).2 > 3) = true then some 0 else
    if (find (hitF l (l.getD j zF).1) 0 j).isSome = true then some 0 else none
theorem hitF_take (l : List (ByteArray × Int)) (s : ByteArray) (j : Nat) (hj : j ≤ l.length) : find (hitF ((l.take j).drop 0) s) 0 ((l.take j).drop 0).length = find (hitF l s) 0 j := by
  rw [List.drop_zero, List.length_take, Nat.min_eq_left hj]
  refine find_congr _ _ fun i _ hi => ?_
  unfold hitF
  have : (l.take j).getD i zF = l.getD i zF := by rw [List.getD_eq_getElem?_getD, List.getD_eq_getElem?_getD, List.getElem?_take, if_pos (by omega)]
  rw [this]
theorem L80_eq (l : List (ByteArray × Int)) (hl : l.length ≤ 8) (k : Nat) (hk : 80 ≤ k) (κ : Bool → Option Res) (K : Int → Option Res) :
    L80_0 k κ l l (l.length : Int) 0 K = fin (fun _ : Nat => κ false) (K (l.length : Int)) (find (badF l) 0 l.length) :=
  loop_find (badF l) (fun _ : Nat => κ false) (K (l.length : Int)) l.length 62 (fun k j => L80_0 k κ l l (l.length : Int) (j : Int) K) (fun k j hk hj => by
    obtain ⟨k, rfl⟩ : ∃ k', k = k' + 1 := ⟨k - 1, by omega⟩
    show L80_0 (k + 1 + 1) κ l l _ (j : Int) K = _
    rw [L80_0]
    simp only [lt_t hj, rng hj, rngE (Nat.le_of_lt hj), Int.toNat_natCast, wr hj (by omega), if_true]
    rw [F16_eq _ k (by omega)]
    unfold badF
    by_cases h1 : (!nameB (l.getD j zF).1) = true
    · rw [if_pos h1, if_pos h1]; rfl
    rw [if_neg h1, if_neg h1]
    by_cases h2 : decide ((l.getD j zF).2 < 1) = true
    · rw [if_pos h2, if_pos h2]; rfl
    rw [if_neg h2, if_neg h2]
    by_cases h3 : decide ((l.getD j zF).2 > 3) = true
    · rw [if_pos h3, if_pos h3]; rfl
    rw [if_neg h3, if_neg h3, F108_eq _ (by simp; omega) _ _ _ (by omega)]
    show (if (find (hitF ((l.take j).drop 0) _) 0 ((l.take j).drop 0).length).isSome = true then _ else _) = _
    rw [hitF_take l _ j (by omega)]
    by_cases h4 : (find (hitF l (l.getD j zF).1) 0 j).isSome = true
    · rw [if_pos h4, if_pos h4]; rfl
    · rw [if_neg h4, if_neg h4]; rfl) (fun k => by
    show L80_0 (k + 1) κ l l _ ((l.length : Nat) : Int) K = _
    rw [L80_0]
    simp only [lt_f, Bool.false_eq_true, if_false]) l.length 0 k (by omega) (by omega)
theorem F80_eq (l : List (ByteArray × Int)) (hl : l.length ≤ 8) (k : Nat) (hk : 81 ≤ k) (κ : Bool → Option Res) : F80 k l κ = κ (find (badF l) 0 l.length).isNone := by
  obtain ⟨k, rfl⟩ : ∃ k', k = k' + 1 := ⟨k - 1, by omega⟩
  rw [F80, if_neg (by simp; omega), L80_eq l hl k (by omega)]
  cases find (badF l) 0 l.length <;> rfl
/-! finding a type -/
theorem L23_eq (l : List (ByteArray × List (ByteArray × Int))) (hl : l.length ≤ 16) (hf : ∀ i, (l.getD i zT).2.length ≤ 8) (s c : ByteArray) (d : List (ByteArray × Int)) (k : Nat) (hk : 20 ≤ k)
    (κ : (ByteArray × List (ByteArray × Int)) × Bool × List (ByteArray × List (ByteArray × Int)) → Option Res) (K : Int → Option Res) :
    L23_0 k κ s (l.length : Int) 0 c d l K = fin (fun i : Nat => κ (l.getD i zT, (true, l))) (K (l.length : Int)) (find (hitT l s) 0 l.length) :=
  loop_find (hitT l s) (fun i : Nat => κ (l.getD i zT, (true, l))) (K (l.length : Int)) l.length 0 (fun k j => L23_0 k κ s (l.length : Int) (j : Int) c d l K) (fun k j hk hj => by
    show L23_0 (k + 1) κ s _ (j : Int) c d l K = _
    rw [L23_0]
    have h9 : decide ((l.getD j zT).2.length ≤ 1000000) = true := by have := hf j; exact decide_eq_true (by omega)
    simp only [lt_t hj, rng hj, Int.toNat_natCast, wr hj (by omega), if_true, decide_eq_true hj, h9]
    unfold hitT
    by_cases h : ((l.getD j zT).1.toList == s.toList) = true
    · rw [if_pos h, if_pos h]; rfl
    · rw [if_neg h, if_neg h]; rfl) (fun k => by
    show L23_0 (k + 1) κ s _ ((l.length : Nat) : Int) c d l K = _
    rw [L23_0]
    simp only [lt_f, Bool.false_eq_true, if_false]) l.length 0 k (by omega) (by omega)
theorem F23_eq (l : List (ByteArray × List (ByteArray × Int))) (hl : l.length ≤ 16) (hf : ∀ i, (l.getD i zT).2.length ≤ 8) (s : ByteArray) (k : Nat) (hk : 21 ≤ k)
    (κ : (ByteArray × List (ByteArray × Int)) × Bool × List (ByteArray × List (ByteArray × Int)) → Option Res) :
    F23 k s l κ = fin (fun i : Nat => κ (l.getD i zT, (true, l))) (κ (zT, (false, l))) (find (hitT l s) 0 l.length) := by
  obtain ⟨k, rfl⟩ : ∃ k', k = k' + 1 := ⟨k - 1, by omega⟩
  rw [F23, L23_eq l hl hf s _ _ k (by omega)]
def badT (l : List (ByteArray × List (ByteArray × Int))) (i : Nat) : Option Int :=
  if (!nameB (l.getD i zT).1) = true then some 1 else if (find (badF (l.getD i zT).2) 0 (l.getD i zT).2.length).isNone = false then some 1 else
    if (find (hitT l (l.getD i zT).1) 0 i).isSome = true then some 4 else none
theorem hitT_take (l : List (ByteArray × List (ByteArray × Int))) (s : ByteArray) (j : Nat) (hj : j ≤ l.length) : find (hitT (l.take j) s) 0 (l.take j).length = find (hitT l s) 0 j := by
  rw [List.length_take, Nat.min_eq_left hj]
  refine find_congr _ _ fun i _ hi => ?_
  unfold hitT
  have : (l.take j).getD i zT = l.getD i zT := by rw [List.getD_eq_getElem?_getD, List.getD_eq_getElem?_getD, List.getElem?_take, if_pos (by omega)]
  rw [this]
theorem take_getD (l : List (ByteArray × List (ByteArray × Int))) (j : Nat) (hj : j < l.length) : l.take j ++ [l.getD j zT] = l.take (j + 1) := by
  rw [List.take_add_one, List.getD_eq_getElem?_getD, List.getElem?_eq_getElem hj]; rfl
theorem L19_eq (l : List (ByteArray × List (ByteArray × Int))) (hl : l.length ≤ 16) (hf : ∀ i, (l.getD i zT).2.length ≤ 8) (k : Nat) (hk : 101 ≤ k) (κ : Int → Option Res)
    (κ1 K : Int × List (ByteArray × List (ByteArray × Int)) → Option Res) :
    L19_0 k κ κ1 l (l.length : Int) 0 [] K = fin κ (K ((l.length : Int), l)) (find (badT l) 0 l.length) :=
  loop_find (badT l) κ (K ((l.length : Int), l)) l.length 84 (fun k j => L19_0 k κ κ1 l (l.length : Int) (j : Int) (l.take j) K) (fun k j hk hj => by
    obtain ⟨k, rfl⟩ : ∃ k', k = k' + 1 := ⟨k - 1, by omega⟩
    show L19_0 (k + 1 + 1) κ κ1 l _ (j : Int) (l.take j) K = _
    rw [L19_0]
    have h9 : decide ((l.getD j zT).2.length ≤ 1000000) = true := by have := hf j; exact decide_eq_true (by omega)
    have hft : ∀ i, ((l.take j).getD i zT).2.length ≤ 8 := fun i => by
      rw [List.getD_eq_getElem?_getD, List.getElem?_take]
      split
      · rw [← List.getD_eq_getElem?_getD]; exact hf i
      · simp
    have h8 : decide (((l.take j).length + [l.getD j zT].length) * 40 ≤ 140737488355328) = true := by
      rw [List.length_take]; simp; omega
    simp only [lt_t hj, rng hj, Int.toNat_natCast, wr hj (by omega), if_true]
    rw [F16_eq _ k (by omega)]
    unfold badT
    by_cases h1 : (!nameB (l.getD j zT).1) = true
    · rw [if_pos h1, if_pos h1]; rfl
    rw [if_neg h1, if_neg h1, F80_eq _ (hf j) _ (by omega)]
    cases h2 : (find (badF (l.getD j zT).2) 0 (l.getD j zT).2.length).isNone with
    | false => rfl
    | true =>
      rw [if_neg (show ¬ (!true) = true by simp), if_neg (show ¬ true = false by simp), F23_eq (l.take j) (by rw [List.length_take]; omega) hft _ _ (by omega), hitT_take l _ j (by omega)]
      cases find (hitT l (l.getD j zT).1) 0 j with
      | some i => rfl
      | none =>
        simp only [fin, h9, h8, if_true, Bool.false_eq_true, if_false, Option.isSome_none, take_getD l j hj, decide_eq_true (Int.natCast_nonneg j), Bool.and_true]) (fun k => by
    show L19_0 (k + 1) κ κ1 l _ ((l.length : Nat) : Int) (l.take l.length) K = _
    rw [L19_0]
    simp only [lt_f, Bool.false_eq_true, if_false, List.take_length]) l.length 0 k (by omega) (by omega)
theorem F19_eq (l : List (ByteArray × List (ByteArray × Int))) (hl : l.length ≤ 16) (hf : ∀ i, (l.getD i zT).2.length ≤ 8) (k : Nat) (hk : 102 ≤ k) (κ : Int → Option Res)
    (κ1 : Int × List (ByteArray × List (ByteArray × Int)) → Option Res) : F19 k l κ κ1 = fin κ (κ1 (0, l)) (find (badT l) 0 l.length) := by
  obtain ⟨k, rfl⟩ : ∃ k', k = k' + 1 := ⟨k - 1, by omega⟩
  rw [F19, if_neg (by simp; omega), L19_eq l hl hf k (by omega)]
/-! the law's own look at the types -/
theorem L20_3_eq (l : List (ByteArray × List (ByteArray × Int))) (i : Nat) (hi : i < l.length) (hl : l.length ≤ 16) (k : Nat) (hk : 20 ≤ k) (κ K : Int → Option Res) :
    L20_3 k κ l (i : Int) 0 K = fin (fun _ : Nat => κ 4) (K (i : Int)) (find (hitT l (l.getD i zT).1) 0 i) :=
  loop_find (hitT l (l.getD i zT).1) (fun _ : Nat => κ 4) (K (i : Int)) i 0 (fun k j => L20_3 k κ l (i : Int) (j : Int) K) (fun k j hk hj => by
    show L20_3 (k + 1) κ l (i : Int) (j : Int) K = _
    rw [L20_3]
    simp only [lt_t hj, rng (Nat.lt_trans hj hi), rng hi, Int.toNat_natCast, wr hj (by omega), if_true]
    unfold hitT
    by_cases h : ((l.getD j zT).1.toList == (l.getD i zT).1.toList) = true
    · rw [if_pos h, if_pos h]; rfl
    · rw [if_neg h, if_neg h]; rfl) (fun k => by
    show L20_3 (k + 1) κ l (i : Int) (i : Int) K = _
    rw [L20_3]
    simp only [lt_f, Bool.false_eq_true, if_false]) i 0 k (by omega) (by omega)
theorem L20_2_eq (l : List (ByteArray × List (ByteArray × Int))) (i : Nat) (hi : i < l.length) (q : Nat) (hq : q < (l.getD i zT).2.length) (hf : (l.getD i zT).2.length ≤ 8) (s : ByteArray) (b : Int) (k : Nat) (hk : 20 ≤ k) (κ K : Int → Option Res) :
    L20_2 k κ l (i : Int) (q : Int) 0 s b K = fin (fun _ : Nat => κ 1) (K (q : Int)) (find (hitF (l.getD i zT).2 s) 0 q) :=
  loop_find (hitF (l.getD i zT).2 s) (fun _ : Nat => κ 1) (K (q : Int)) q 0 (fun k j => L20_2 k κ l (i : Int) (q : Int) (j : Int) s b K) (fun k j hk hj => by
    show L20_2 (k + 1) κ l (i : Int) (q : Int) (j : Int) s b K = _
    rw [L20_2]
    simp only [lt_t hj, Int.toNat_natCast, rng (Nat.lt_trans hj hq), rng hi, wr hj (by omega), if_true]
    unfold hitF
    by_cases h : (((l.getD i zT).2.getD j zF).1.toList == s.toList) = true
    · rw [if_pos h, if_pos h]; rfl
    · rw [if_neg h, if_neg h]; rfl) (fun k => by
    show L20_2 (k + 1) κ l (i : Int) (q : Int) (q : Int) s b K = _
    rw [L20_2]
    simp only [lt_f, Bool.false_eq_true, if_false]) q 0 k (by omega) (by omega)
theorem L20_1_eq (l : List (ByteArray × List (ByteArray × Int))) (i : Nat) (hi : i < l.length) (hf : (l.getD i zT).2.length ≤ 8) (k : Nat) (hk : 80 ≤ k) (κ K : Int → Option Res) :
    L20_1 k κ l (i : Int) 0 K = fin (fun _ : Nat => κ 1) (K ((l.getD i zT).2.length : Int)) (find (badF (l.getD i zT).2) 0 (l.getD i zT).2.length) :=
  loop_find (badF (l.getD i zT).2) (fun _ : Nat => κ 1) (K ((l.getD i zT).2.length : Int)) (l.getD i zT).2.length 62 (fun k j => L20_1 k κ l (i : Int) (j : Int) K) (fun k j hk hj => by
    obtain ⟨k, rfl⟩ : ∃ k', k = k' + 1 := ⟨k - 1, by omega⟩
    show L20_1 (k + 1 + 1) κ l (i : Int) (j : Int) K = _
    rw [L20_1]
    simp only [Int.toNat_natCast, lt_t hj, rng hj, rng hi, wr hj (by omega), if_true]
    rw [F17_eq _ k (by omega)]
    unfold badF
    by_cases h1 : (!nameB ((l.getD i zT).2.getD j zF).1) = true
    · rw [if_pos h1, if_pos h1]; rfl
    rw [if_neg h1, if_neg h1]
    by_cases h2 : decide (((l.getD i zT).2.getD j zF).2 < 1) = true
    · rw [if_pos h2, if_pos h2]; rfl
    rw [if_neg h2, if_neg h2]
    by_cases h3 : decide (((l.getD i zT).2.getD j zF).2 > 3) = true
    · rw [if_pos h3, if_pos h3]; rfl
    rw [if_neg h3, if_neg h3, L20_2_eq l i hi j hj hf _ _ _ (by omega)]
    cases find (hitF (l.getD i zT).2 ((l.getD i zT).2.getD j zF).1) 0 j <;> rfl) (fun k => by
    show L20_1 (k + 1) κ l (i : Int) (((l.getD i zT).2.length : Nat) : Int) K = _
    rw [L20_1]
    simp only [Int.toNat_natCast, rng hi, if_true, lt_f, Bool.false_eq_true, if_false]) (l.getD i zT).2.length 0 k (by omega) (by omega)
theorem L20_0_eq (l : List (ByteArray × List (ByteArray × Int))) (hl : l.length ≤ 16) (hf : ∀ i, (l.getD i zT).2.length ≤ 8) (k : Nat) (hk : 101 ≤ k) (κ K : Int → Option Res) :
    L20_0 k κ l 0 K = fin κ (K (l.length : Int)) (find (badT l) 0 l.length) :=
  loop_find (badT l) κ (K (l.length : Int)) l.length 82 (fun k j => L20_0 k κ l (j : Int) K) (fun k j hk hj => by
    obtain ⟨k, rfl⟩ : ∃ k', k = k' + 1 := ⟨k - 1, by omega⟩
    show L20_0 (k + 1 + 1) κ l (j : Int) K = _
    rw [L20_0]
    simp only [lt_t hj, rng hj, Int.toNat_natCast, wr hj (by omega), if_true]
    rw [F17_eq _ k (by omega)]
    unfold badT
    by_cases h1 : (!nameB (l.getD j zT).1) = true
    · rw [if_pos h1, if_pos h1]; rfl
    rw [if_neg h1, if_neg h1, L20_1_eq l j hj (hf j) _ (by omega)]
    cases find (badF (l.getD j zT).2) 0 (l.getD j zT).2.length with
    | some _ => rfl
    | none =>
      simp only [fin]
      rw [L20_3_eq l j hj hl _ (by omega)]
      cases find (hitT l (l.getD j zT).1) 0 j <;> rfl) (fun k => by
    show L20_0 (k + 1) κ l ((l.length : Nat) : Int) K = _
    rw [L20_0]
    simp only [lt_f, Bool.false_eq_true, if_false]) l.length 0 k (by omega) (by omega)
theorem F20_eq (l : List (ByteArray × List (ByteArray × Int))) (hl : l.length ≤ 16) (hf : ∀ i, (l.getD i zT).2.length ≤ 8) (k : Nat) (hk : 102 ≤ k) (κ : Int → Option Res) :
    F20 k l κ = fin κ (κ 0) (find (badT l) 0 l.length) := by
  obtain ⟨k, rfl⟩ : ∃ k', k = k' + 1 := ⟨k - 1, by omega⟩
  rw [F20, L20_0_eq l hl hf k (by omega)]
/-! fields and names of a type that was found -/
theorem L24_eq (l : List (ByteArray × List (ByteArray × Int))) (fs : List (ByteArray × Int)) (hf : fs.length ≤ 8) (s : ByteArray) (k : Nat) (hk : 20 ≤ k)
    (κ : Int × Int × List (ByteArray × List (ByteArray × Int)) → Option Res) (K : Int → Option Res) :
    L24v1_0 k κ s fs (fs.length : Int) 0 l K = fin (fun i : Nat => κ ((i : Int), ((fs.getD i zF).2, l))) (K (fs.length : Int)) (find (hitF fs s) 0 fs.length) :=
  loop_find (hitF fs s) (fun i : Nat => κ ((i : Int), ((fs.getD i zF).2, l))) (K (fs.length : Int)) fs.length 0 (fun k j => L24v1_0 k κ s fs (fs.length : Int) (j : Int) l K) (fun k j hk hj => by
    show L24v1_0 (k + 1) κ s fs _ (j : Int) l K = _
    rw [L24v1_0]
    simp only [lt_t hj, rng hj, Int.toNat_natCast, wr hj (by omega), if_true]
    unfold hitF
    by_cases h : ((fs.getD j zF).1.toList == s.toList) = true
    · rw [if_pos h, if_pos h]; rfl
    · rw [if_neg h, if_neg h]; rfl) (fun k => by
    show L24v1_0 (k + 1) κ s fs _ ((fs.length : Nat) : Int) l K = _
    rw [L24v1_0]
    simp only [lt_f, Bool.false_eq_true, if_false]) fs.length 0 k (by omega) (by omega)
theorem F24_eq (l : List (ByteArray × List (ByteArray × Int))) (hl : l.length ≤ 16) (hf : ∀ i, (l.getD i zT).2.length ≤ 8) (s t : ByteArray) (i : Nat) (hi : find (hitT l s) 0 l.length = some i) (k : Nat) (hk : 40 ≤ k)
    (κ : Int × Int × List (ByteArray × List (ByteArray × Int)) → Option Res) :
    F24v1 k s t l κ = fin (fun q : Nat => κ ((q : Int), (((l.getD i zT).2.getD q zF).2, l))) (κ (-1, (0, l))) (find (hitF (l.getD i zT).2 t) 0 (l.getD i zT).2.length) := by
  obtain ⟨k, rfl⟩ : ∃ k', k = k' + 1 := ⟨k - 1, by omega⟩
  rw [F24v1, F23_eq l hl hf s k (by omega), hi]
  show L24v1_0 k κ t (l.getD i zT).2 ((l.getD i zT).2.length : Int) 0 l _ = _
  rw [L24_eq l _ (hf i) t k (by omega)]
theorem L21_eq (l : List (ByteArray × List (ByteArray × Int))) (hl : l.length ≤ 16) (k : Nat) (hk : 20 ≤ k) (κ : List ByteArray × List (ByteArray × List (ByteArray × Int)) → Option Res) (K : List ByteArray × Int → Option Res) :
    L21v1_0 k κ [] (l.length : Int) 0 l K = K (l.map (·.1), (l.length : Int)) :=
  loop_find (α := Unit) (fun _ => none) (fun _ => none) (K (l.map (·.1), (l.length : Int))) l.length 0 (fun k j => L21v1_0 k κ ((l.take j).map (·.1)) (l.length : Int) (j : Int) l K) (fun k j hk hj => by
    show L21v1_0 (k + 1) κ ((l.take j).map (·.1)) _ (j : Int) l K = _
    rw [L21v1_0]
    have h8 : decide ((((l.take j).map (·.1)).length + [(l.getD j zT).1].length) * 16 ≤ 140737488355328) = true := by
      rw [List.length_map, List.length_take]; simp; omega
    have h7 : (l.take j).map (·.1) ++ [(l.getD j zT).1] = (l.take (j + 1)).map (·.1) := by
      rw [← take_getD l j hj, List.map_append]; rfl
    simp only [lt_t hj, rng hj, Int.toNat_natCast, wr hj (by omega), if_true, decide_eq_true hj, h8, h7]
    rfl) (fun k => by
    show L21v1_0 (k + 1) κ ((l.take l.length).map (·.1)) _ ((l.length : Nat) : Int) l K = _
    rw [L21v1_0]
    simp only [lt_f, Bool.false_eq_true, if_false, List.take_length]) l.length 0 k (by omega) (by omega) |>.trans (by rw [find_all _ _ (fun _ _ _ => rfl)]; rfl)
/-! the law's loops over types of which nothing is wrong -/
def noOne : ByteArray := ⟨#[110, 111, 32, 111, 110, 101]⟩
theorem noOne_bad : nameB noOne = false := by kernel_rfl
theorem eq_of_beq_toList {a b : ByteArray} (h : (a.toList == b.toList) = true) : a = b := by
  rw [beq_iff_eq, ByteArray.toList_eq, ByteArray.toList_eq] at h
  cases a; cases b
  simp only [ByteArray.mk.injEq]
  exact Array.toList_inj.1 h
theorem badT_none {l : List (ByteArray × List (ByteArray × Int))} {i : Nat} (h : badT l i = none) : nameB (l.getD i zT).1 = true ∧ find (badF (l.getD i zT).2) 0 (l.getD i zT).2.length = none ∧ find (hitT l (l.getD i zT).1) 0 i = none := by
  unfold badT at h
  split at h
  · cases h
  rename_i h1
  split at h
  · cases h
  rename_i h2
  split at h
  · cases h
  rename_i h3
  exact ⟨by simpa using h1, by simpa using h2, by simpa using h3⟩
theorem badF_none {l : List (ByteArray × Int)} {i : Nat} (h : badF l i = none) : nameB (l.getD i zF).1 = true ∧ find (hitF l (l.getD i zF).1) 0 i = none := by
  unfold badF at h
  split at h
  · cases h
  rename_i h1
  split at h
  · cases h
  split at h
  · cases h
  split at h
  · cases h
  rename_i h4
  exact ⟨by simpa using h1, by simpa using h4⟩
theorem first_T {l : List (ByteArray × List (ByteArray × Int))} (h : find (badT l) 0 l.length = none) {i : Nat} (hi : i < l.length) : find (hitT l (l.getD i zT).1) 0 l.length = some i :=
  find_first _ _ i (Nat.zero_le _) (by omega) (by unfold hitT; rw [if_pos (by simp)]) (fun q h1 h2 => find_none _ _ (badT_none (find_none _ _ h i (Nat.zero_le _) (by omega))).2.2 q h1 (by omega))
theorem first_F {l : List (ByteArray × Int)} (h : find (badF l) 0 l.length = none) {i : Nat} (hi : i < l.length) : find (hitF l (l.getD i zF).1) 0 l.length = some i :=
  find_first _ _ i (Nat.zero_le _) (by omega) (by unfold hitF; rw [if_pos (by simp)]) (fun q h1 h2 => find_none _ _ (badF_none (find_none _ _ h i (Nat.zero_le _) (by omega))).2 q h1 (by omega))
theorem none_T {l : List (ByteArray × List (ByteArray × Int))} (h : find (badT l) 0 l.length = none) : find (hitT l noOne) 0 l.length = none :=
  find_all _ _ fun i _ hi => by
    unfold hitT
    rw [if_neg]
    intro he
    have := (badT_none (find_none _ _ h i (Nat.zero_le _) hi)).1
    rw [eq_of_beq_toList he, noOne_bad] at this
    cases this
theorem none_F {l : List (ByteArray × Int)} (h : find (badF l) 0 l.length = none) : find (hitF l noOne) 0 l.length = none :=
  find_all _ _ fun i _ hi => by
    unfold hitF
    rw [if_neg]
    intro he
    have := (badF_none (find_none _ _ h i (Nat.zero_le _) hi)).1
    rw [eq_of_beq_toList he, noOne_bad] at this
    cases this
theorem L4_3_eq (l : List (ByteArray × List (ByteArray × Int))) (hl : l.length ≤ 16) (hf : ∀ i, (l.getD i zT).2.length ≤ 8) (hb : find (badT l) 0 l.length = none) (i : Nat) (hi : i < l.length) (ns : List ByteArray) (e : Int) (k : Nat) (hk : 60 ≤ k)
    (κ : Bool → Option Res) (K : Int × List (ByteArray × List (ByteArray × Int)) → Option Res) :
    L4_3 k κ l ns (i : Int) 0 e (l.getD i zT).1 (l.getD i zT).2 l K = K (((l.getD i zT).2.length : Int), l) :=
  loop_find (α := Unit) (fun _ => none) (fun _ => none) (K (((l.getD i zT).2.length : Int), l)) (l.getD i zT).2.length 42 (fun k j => L4_3 k κ l ns (i : Int) (j : Int) e (l.getD i zT).1 (l.getD i zT).2 l K) (fun k j hk hj => by
    show L4_3 (k + 1) κ l ns (i : Int) (j : Int) e (l.getD i zT).1 (l.getD i zT).2 l K = _
    rw [L4_3]
    have h8 := hf i
    have hbf := (badT_none (find_none _ _ hb i (Nat.zero_le _) (by omega))).2.1
    have he : ((((l.getD i zT).2.getD j zF).1 == ((l.getD i zT).2.getD j zF).1) && (((l.getD i zT).2.getD j zF).2 == ((l.getD i zT).2.getD j zF).2)) = true := by
      rw [beq_toListBytes]; simp
    simp only [lt_t hj, rng hj, rng hi, Int.toNat_natCast, wr hj (by omega), if_true]
    rw [F24_eq l hl hf _ _ i (first_T hb hi) k (by omega), first_F hbf hj]
    show (if (!_) = true then _ else if ((j : Int) != (j : Int)) = true then _ else if (((l.getD i zT).2.getD j zF).2 != ((l.getD i zT).2.getD j zF).2) = true then _ else _) = _
    simp only [he, bne_self_eq_false, Bool.not_true, Bool.false_eq_true, if_false]
    rfl) (fun k => by
    show L4_3 (k + 1) κ l ns (i : Int) (((l.getD i zT).2.length : Nat) : Int) e (l.getD i zT).1 (l.getD i zT).2 l K = _
    rw [L4_3]
    simp only [lt_f, Bool.false_eq_true, if_false]) (l.getD i zT).2.length 0 k (by omega) (by have := hf i; omega) |>.trans (by rw [find_all _ _ (fun _ _ _ => rfl)]; rfl)
theorem map_getD (l : List (ByteArray × List (ByteArray × Int))) (i : Nat) (hi : i < l.length) : (l.map (·.1)).getD i (⟨#[]⟩ : ByteArray) = (l.getD i zT).1 := by
  rw [List.getD_eq_getElem?_getD, List.getD_eq_getElem?_getD, List.getElem?_map, List.getElem?_eq_getElem hi]; rfl
theorem L4_2_eq (l : List (ByteArray × List (ByteArray × Int))) (hl : l.length ≤ 16) (hf : ∀ i, (l.getD i zT).2.length ≤ 8) (hb : find (badT l) 0 l.length = none) (e : Int) (k : Nat) (hk : 80 ≤ k)
    (κ : Bool → Option Res) (K : Int × List (ByteArray × List (ByteArray × Int)) → Option Res) :
    L4_2 k κ l (l.map (·.1)) 0 e l K = K ((l.length : Int), l) :=
  loop_find (α := Unit) (fun _ => none) (fun _ => none) (K ((l.length : Int), l)) l.length 62 (fun k j => L4_2 k κ l (l.map (·.1)) (j : Int) e l K) (fun k j hk hj => by
    show L4_2 (k + 1) κ l (l.map (·.1)) (j : Int) e l K = _
    rw [L4_2]
    have hbf := (badT_none (find_none _ _ hb j (Nat.zero_le _) (by omega))).2.1
    have hlm : (l.map (·.1)).length = l.length := List.length_map _
    simp only [lt_t hj, rng hj, Int.toNat_natCast, wr hj (by omega), if_true, hlm, decide_eq_true hj, map_getD l j hj]
    rw [F23_eq l hl hf _ k (by omega), first_T hb hj]
    simp only [fin, Bool.not_true, Bool.false_eq_true, if_false, beq_self_eq_true, bne_self_eq_false]
    rw [L4_3_eq l hl hf hb j hj _ _ k (by omega)]
    show F24v1 k (l.getD j zT).1 noOne l _ = _
    rw [F24_eq l hl hf _ _ j (first_T hb hj) k (by omega), none_F hbf]
    rfl) (fun k => by
    show L4_2 (k + 1) κ l (l.map (·.1)) ((l.length : Nat) : Int) e l K = _
    rw [L4_2]
    simp only [lt_f, Bool.false_eq_true, if_false]) l.length 0 k (by omega) (by omega) |>.trans (by rw [find_all _ _ (fun _ _ _ => rfl)]; rfl)
theorem F15_eq (κ : Bool → Option Res) : F15 120 κ = κ true := by kernel_rfl
theorem badT_ne (l : List (ByteArray × List (ByteArray × Int))) {i : Nat} {c : Int} (h : badT l i = some c) : c = 1 ∨ c = 4 := by
  unfold badT at h
  split at h
  · cases h; exact .inl rfl
  split at h
  · cases h; exact .inl rfl
  split at h
  · cases h; exact .inr rfl
  · cases h
theorem find_some {α : Type} {t : Nat → Option α} {c : α} : ∀ m j, find t j m = some c → ∃ i, t i = some c
  | 0, j, h => by cases h
  | m + 1, j, h => by
    unfold find at h
    split at h
    · cases h; exact ⟨j, ‹_›⟩
    · exact find_some m (j + 1) h
/-- what the law does once it has its types -/
theorem tail_eq (l : List (ByteArray × List (ByteArray × Int))) (hl : l.length ≤ 16) (hf : ∀ i, (l.getD i zT).2.length ≤ 8) (a0 : List (ByteArray × List (ByteArray × Int))) (a1 : Int) (κ : Bool → Option Res) (h18 : ∀ κ', F18 120 a0 a1 κ' = κ' l) : F4 121 a0 a1 κ = κ true := by
  rw [F4, h18, F19_eq l hl hf 120 (by omega)]
  cases hb : find (badT l) 0 l.length with
  | some c =>
    have hc : c ≠ 0 := by obtain ⟨i, hi⟩ := find_some _ _ hb; rcases badT_ne l hi with h | h <;> omega
    simp only [fin]
    rw [F20_eq l hl hf 120 (by omega), hb]
    simp only [fin, bne_self_eq_false, Bool.false_eq_true, if_false]
    rw [if_pos (by simpa using hc), F15_eq]
    rfl
  | none =>
    simp only [fin]
    rw [F20_eq l hl hf 120 (by omega), hb]
    simp only [fin, bne_self_eq_false, Bool.false_eq_true, if_false]
    rw [F21v1, F22v1, L21_eq l hl _ (by omega), F22v1]
    simp only [List.length_map, bne_self_eq_false, Bool.false_eq_true, if_false]
    rw [L4_2_eq l hl hf hb _ _ (by omega)]
    show F23 120 noOne l _ = _
    rw [F23_eq l hl hf _ _ (by omega), none_T hb]
    simp only [fin]
    rw [F15_eq]
    rfl
end Go.Proofs.Ytcnoaflojojfkac.SchF
