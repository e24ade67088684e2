/- NfaMoves in plain words: what is wanted, and that the moves are just that. No condition. -/
import Derived.Test.YtcnoaflojojfkabNfaMovesOf
namespace Go.Proofs.Ytcnoaflojojfkab.Nfa
open Go.RowKit Go.Proofs.Ytcnoaflojojfkab.Pat
set_option linter.unusedVariables false
set_option linter.unusedSimpArgs false
/-- one event more of the same element -/
def w1Of (es : List El) (s : Sta) : List Sta := if 0 ≤ s.e then (match es[s.e.toNat]? with | some e => if s.c < e.mx then [⟨s.e, s.c + 1⟩] else [] | none => []) else []
/-- the first one of the next element -/
def w2Of (es : List El) (s : Sta) : List Sta := if few es s = true then [] else if 0 ≤ nextOf es (s.e + 1).toNat then [⟨nextOf es (s.e + 1).toNat, 1⟩] else []
def wantOf (es : List El) (s : Sta) : List Sta := w1Of es s ++ w2Of es s
theorem many_is {e : El} (h : 1 ≤ e.mx ∧ e.mx ≤ 4) : (many e : Int) = e.mx := by unfold many; rw [imin_eq]; omega
theorem want_is {es : List El} (hf : Fine es) {s : Sta} (hs : s ∈ upto es es.length) : movesOf es (upto es es.length) s = (wantOf es s).map (idx (upto es es.length)) ∧ ∀ x ∈ wantOf es s, x ∈ upto es es.length := by
  have hmem := fun x => mem_upto (es := es) (x := x) es.length
  have h1 : l1Of (upto es es.length) s = (w1Of es s).map (idx (upto es es.length)) ∧ ∀ x ∈ w1Of es s, x ∈ upto es es.length := by
    rcases (hmem s).1 hs with ⟨h1, h2⟩ | ⟨i, e, hi, he, hn, h1, h2, h3⟩
    · unfold l1Of w1Of
      rw [if_neg (by omega), if_neg (by omega)]
      exact ⟨rfl, fun x hx => by cases hx⟩
    · have hmx := hf.2 e (List.mem_of_getElem? he)
      have hmany := many_is hmx
      have hin : (⟨s.e, s.c + 1⟩ : Sta) ∈ upto es es.length ↔ s.c < e.mx := by
        rw [hmem]
        constructor
        · rintro (⟨g1, _⟩ | ⟨i', e', hi', he', hn', g1, g2, g3⟩)
          · simp only at g1; omega
          · simp only at g1 g2 g3
            obtain rfl : i = i' := by omega
            rw [he] at he'
            obtain rfl : e = e' := by simpa using he'
            omega
        · intro hlt
          exact .inr ⟨i, e, hi, he, hn, h1, by show (1 : Int) ≤ s.c + 1; omega, by show s.c + 1 ≤ _; omega⟩
      unfold l1Of w1Of
      rw [if_pos (show 0 ≤ s.e by omega), show s.e.toNat = i by omega, he]
      rcases idx_is (upto es es.length) ⟨s.e, s.c + 1⟩ with ⟨k1, k2⟩ | ⟨j, k1, k2⟩
      · have hnot : ¬ s.c < e.mx := fun h => k2 (hin.2 h)
        rw [if_neg (by rw [k1]; omega)]
        simp only [hnot, if_false]
        exact ⟨rfl, fun x hx => by cases hx⟩
      · have hyes : s.c < e.mx := hin.1 (List.mem_of_getElem? k2)
        rw [if_pos (by rw [k1]; omega)]
        simp only [hyes, if_true]
        exact ⟨rfl, fun x hx => by rw [List.mem_singleton.1 hx]; exact hin.2 hyes⟩
  have h2 : few es s = false → l2Of es (upto es es.length) s = (w2Of es s).map (idx (upto es es.length)) ∧ ∀ x ∈ w2Of es s, x ∈ upto es es.length := by
    intro hfew
    unfold l2Of w2Of
    rw [if_neg (show ¬ (few es s = true) by rw [hfew]; simp)]
    have hle : (s.e + 1).toNat ≤ es.length := by
      rcases (hmem s).1 hs with ⟨g1, _⟩ | ⟨i, e, hi, he, _, g1, _⟩
      · omega
      · omega
    rcases upto_next es _ _ rfl hle with ⟨hnx, _⟩ | ⟨r, e, hnx, _, her, hen, _⟩
    · rw [hnx]
      have hno : (⟨-1, 1⟩ : Sta) ∉ upto es es.length := by
        rw [hmem]
        rintro (⟨_, g⟩ | ⟨i, e, _, _, _, g, _⟩)
        · simp only at g; omega
        · simp only at g; omega
      rcases idx_is (upto es es.length) ⟨-1, 1⟩ with ⟨k1, _⟩ | ⟨j, k1, k2⟩
      · rw [if_neg (by rw [k1]; omega), if_neg (by omega)]
        exact ⟨rfl, fun x hx => by cases hx⟩
      · exact absurd (List.mem_of_getElem? k2) hno
    · rw [hnx]
      have hmx := hf.2 e (List.mem_of_getElem? her)
      have hmany := many_is hmx
      have hin : (⟨(r : Int), 1⟩ : Sta) ∈ upto es es.length := by
        rw [hmem]
        exact .inr ⟨r, e, (List.getElem?_eq_some_iff.1 her).1, her, hen, rfl, by show (1 : Int) ≤ 1; omega, by show (1 : Int) ≤ _; omega⟩
      rcases idx_is (upto es es.length) ⟨(r : Int), 1⟩ with ⟨_, k2⟩ | ⟨j, k1, k2⟩
      · exact absurd hin k2
      · have hj : j ≠ 0 := by
          rintro rfl
          have : (upto es es.length)[0]? = some ⟨-1, 0⟩ := rfl
          rw [this] at k2
          have g := Option.some.inj k2
          have := congrArg Sta.e g
          simp only at this; omega
        rw [if_pos (by rw [k1]; omega), if_pos (by omega)]
        exact ⟨rfl, fun x hx => by rw [List.mem_singleton.1 hx]; exact hin⟩
  unfold movesOf wantOf
  cases hfew : few es s with
  | true =>
    have hw2 : w2Of es s = [] := by unfold w2Of; rw [if_pos hfew]
    rw [if_pos rfl, hw2, List.append_nil]
    exact h1
  | false =>
    obtain ⟨g1, g2⟩ := h2 hfew
    rw [if_neg (by simp), List.map_append, h1.1, g1]
    refine ⟨rfl, fun x hx => ?_⟩
    rcases List.mem_append.1 hx with hx | hx
    · exact h1.2 x hx
    · exact g2 x hx
theorem want_len (es : List El) (s : Sta) : (wantOf es s).length ≤ 2 := by
  unfold wantOf
  rw [List.length_append]
  have h1 : (w1Of es s).length ≤ 1 := by
    unfold w1Of
    split
    · split
      · split <;> simp
      · simp
    · simp
  have h2 : (w2Of es s).length ≤ 1 := by
    unfold w2Of
    split
    · simp
    · split <;> simp
  omega
end Go.Proofs.Ytcnoaflojojfkab.Nfa
