/- Where beginnings of matches may be: the states of a query, in plain words. No condition. -/
import Derived.Test.YtcnoaflojojfkabPatBase
namespace Go.Proofs.Ytcnoaflojojfkab.Nfa
open Go.RowKit Go.Proofs.Ytcnoaflojojfkab.Pat
set_option linter.unusedVariables false
set_option linter.unusedSimpArgs false

structure Sta where
  e : Int
  c : Int
def Sta.cells (x : Sta) : List Value := [.int .i64 x.e, .int .i64 x.c]
theorem Sta.len (x : Sta) : x.cells.length = 2 := rfl
theorem Sta.ext {x y : Sta} (h1 : x.e = y.e) (h2 : x.c = y.c) : x = y := by cases x; cases y; simp_all
/-- the states of one element: so many -/
def col (i n : Nat) : List Sta := (List.range n).map fun c => ⟨(i : Int), ((c + 1 : Nat) : Int)⟩
theorem col_succ (i n : Nat) : col i (n + 1) = col i n ++ [⟨(i : Int), ((n + 1 : Nat) : Int)⟩] := by unfold col; rw [List.range_succ, List.map_append]; rfl
theorem col_len (i n : Nat) : (col i n).length = n := by unfold col; simp
/-- how many states an element has -/
def many (e : El) : Nat := (imin e.mx 4).toNat
def colOf (es : List El) (i : Nat) : List Sta := match es[i]? with
  | some e => if e.neg then [] else col i (many e)
  | none => []
/-- the states of the first so many elements -/
def upto (es : List El) (k : Nat) : List Sta := ⟨-1, 0⟩ :: (List.range k).flatMap (colOf es)
theorem upto_succ (es : List El) (k : Nat) : upto es (k + 1) = upto es k ++ colOf es k := by
  unfold upto
  rw [List.range_succ, List.flatMap_append, List.cons_append]
  simp
theorem upto_neg {es : List El} {k : Nat} {e : El} (h : es[k]? = some e) (hn : e.neg = true) : upto es (k + 1) = upto es k := by
  rw [upto_succ]; unfold colOf; rw [h]; simp [hn]
theorem upto_pos {es : List El} {k : Nat} {e : El} (h : es[k]? = some e) (hn : e.neg = false) : upto es (k + 1) = upto es k ++ col k (many e) := by
  rw [upto_succ]; unfold colOf; rw [h]; simp [hn]
/-- up to the next element that must be there no states are added -/
theorem upto_next (es : List El) : ∀ (d s : Nat), es.length - s = d → s ≤ es.length → (nextOf es s = -1 ∧ upto es s = upto es es.length) ∨ (∃ (r : Nat) (e : El), nextOf es s = (r : Int) ∧ s ≤ r ∧ es[r]? = some e ∧ e.neg = false ∧ upto es s = upto es r)
  | 0, s, hd, hs => by
    obtain rfl : s = es.length := by omega
    exact .inl ⟨nextOf_end (Nat.le_refl _), rfl⟩
  | d + 1, s, hd, hs => by
    have hlt : s < es.length := by omega
    obtain ⟨e, he⟩ : ∃ e, es[s]? = some e := ⟨_, List.getElem?_eq_getElem hlt⟩
    cases hn : e.neg with
    | false => exact .inr ⟨s, e, nextOf_stop he hn, Nat.le_refl _, he, hn, rfl⟩
    | true =>
      rw [nextOf_go he hn, ← upto_neg he hn]
      rcases upto_next es d (s + 1) (by omega) (by omega) with h | ⟨r, e', h1, h2, h3⟩
      · exact .inl h
      · exact .inr ⟨r, e', h1, by omega, h3⟩
/-- which states there are -/
theorem mem_upto {es : List El} {x : Sta} : ∀ k, x ∈ upto es k ↔ (x.e = -1 ∧ x.c = 0) ∨ ∃ (i : Nat) (e : El), i < k ∧ es[i]? = some e ∧ e.neg = false ∧ x.e = (i : Int) ∧ 1 ≤ x.c ∧ x.c ≤ (many e : Int) := by
  intro k
  unfold upto
  rw [List.mem_cons, List.mem_flatMap]
  constructor
  · rintro (rfl | ⟨i, hi, hx⟩)
    · exact .inl ⟨rfl, rfl⟩
    · right
      rw [List.mem_range] at hi
      unfold colOf at hx
      split at hx
      · rename_i e he
        split at hx
        · cases hx
        · rename_i hn
          unfold col at hx
          obtain ⟨c, hc, rfl⟩ := List.mem_map.1 hx
          rw [List.mem_range] at hc
          refine ⟨i, e, hi, he, by simpa using hn, rfl, ?_, ?_⟩
          · show (1 : Int) ≤ ((c + 1 : Nat) : Int); omega
          · show ((c + 1 : Nat) : Int) ≤ _; omega
      · cases hx
  · rintro (⟨h1, h2⟩ | ⟨i, e, hi, he, hn, h1, h2, h3⟩)
    · exact .inl (Sta.ext h1 h2)
    · right
      refine ⟨i, List.mem_range.2 hi, ?_⟩
      unfold colOf
      rw [he]
      simp only [hn, if_false, Bool.false_eq_true]
      unfold col
      refine List.mem_map.2 ⟨(x.c - 1).toNat, List.mem_range.2 (by omega), ?_⟩
      refine Sta.ext h1.symm ?_
      show (((x.c - 1).toNat + 1 : Nat) : Int) = x.c
      omega
theorem many_le (e : El) : many e ≤ 4 := by unfold many; rw [imin_eq]; omega
theorem upto_len (es : List El) : ∀ k, (upto es k).length ≤ 1 + 4 * k
  | 0 => by simp [upto]
  | k + 1 => by
    have := upto_len es k
    rw [upto_succ, List.length_append]
    have h2 : (colOf es k).length ≤ 4 := by
      unfold colOf
      split
      · split
        · simp
        · rw [col_len]; exact many_le _
      · simp
    omega
/-- where a state stands first; -1: nowhere -/
def find (l : List Sta) (x : Sta) : Nat → Int
  | 0 => -1
  | k + 1 => let i := l.length - (k + 1); match l[i]? with
    | some y => if x.e = y.e ∧ x.c = y.c then (i : Int) else find l x k
    | none => -1
def idx (l : List Sta) (x : Sta) : Int := find l x l.length
theorem find_hit {l : List Sta} {x y : Sta} {i : Nat} (h : l[i]? = some y) (hx : x.e = y.e ∧ x.c = y.c) : find l x (l.length - i) = (i : Int) := by
  have hi := (List.getElem?_eq_some_iff.1 h).1
  obtain ⟨k, hk⟩ : ∃ k, l.length - i = k + 1 := ⟨l.length - i - 1, by omega⟩
  rw [hk]
  show (let i := l.length - (k + 1); match l[i]? with | some y => if x.e = y.e ∧ x.c = y.c then (i : Int) else find l x k | none => -1) = _
  simp only [show l.length - (k + 1) = i by omega, h, if_pos hx]
theorem find_miss {l : List Sta} {x y : Sta} {i : Nat} (h : l[i]? = some y) (hx : ¬ (x.e = y.e ∧ x.c = y.c)) : find l x (l.length - i) = find l x (l.length - (i + 1)) := by
  have hi := (List.getElem?_eq_some_iff.1 h).1
  obtain ⟨k, hk⟩ : ∃ k, l.length - i = k + 1 := ⟨l.length - i - 1, by omega⟩
  rw [hk, show l.length - (i + 1) = k by omega]
  show (let i := l.length - (k + 1); match l[i]? with | some y => if x.e = y.e ∧ x.c = y.c then (i : Int) else find l x k | none => -1) = _
  simp only [show l.length - (k + 1) = i by omega, h, if_neg hx]
/-- what it finds is it; where it finds none there is none -/
theorem find_is {l : List Sta} {x : Sta} : ∀ (k i : Nat), l.length - i = k → i ≤ l.length → (find l x k = -1 ∧ ∀ j y, i ≤ j → l[j]? = some y → ¬ (x.e = y.e ∧ x.c = y.c)) ∨ ∃ j : Nat, find l x k = (j : Int) ∧ l[j]? = some x
  | 0, i, hk, hi => .inl ⟨rfl, fun j y hj hy => by have := (List.getElem?_eq_some_iff.1 hy).1; omega⟩
  | k + 1, i, hk, hi => by
    obtain ⟨y, hy⟩ : ∃ y, l[i]? = some y := ⟨_, List.getElem?_eq_getElem (by omega)⟩
    by_cases hx : x.e = y.e ∧ x.c = y.c
    · right
      refine ⟨i, ?_, ?_⟩
      · rw [← hk]; exact find_hit hy hx
      · rw [hy]; exact congrArg some (Sta.ext hx.1.symm hx.2.symm)
    · rw [← hk, find_miss hy hx]
      rcases find_is (l := l) (x := x) k (i + 1) (by omega) (by omega) with ⟨h1, h2⟩ | ⟨j, h1, h2⟩
      · left
        rw [show l.length - (i + 1) = k by omega]
        refine ⟨h1, fun j z hj hz => ?_⟩
        by_cases hij : j = i
        · subst hij
          rw [hy] at hz
          obtain rfl : y = z := by simpa using hz
          exact hx
        · exact h2 j z (by omega) hz
      · right
        rw [show l.length - (i + 1) = k by omega]
        exact ⟨j, h1, h2⟩
theorem idx_is (l : List Sta) (x : Sta) : (idx l x = -1 ∧ x ∉ l) ∨ ∃ j : Nat, idx l x = (j : Int) ∧ l[j]? = some x := by
  rcases find_is (l := l) (x := x) l.length 0 (by omega) (by omega) with ⟨h1, h2⟩ | h
  · left
    refine ⟨h1, fun hm => ?_⟩
    obtain ⟨j, hj⟩ := List.mem_iff_getElem?.1 hm
    exact h2 j x (by omega) hj ⟨rfl, rfl⟩
  · exact .inr h
end Go.Proofs.Ytcnoaflojojfkab.Nfa
