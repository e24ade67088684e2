/- What a merge of lists of stamps plays: in plain words, no program in sight. No condition. -/
import Derived.Test.YtcnoaflojojfkabStamp
namespace Go.Proofs.Ytcnoaflojojfkab.Stamp
open Go.RowKit
set_option linter.unusedVariables false
set_option linter.unusedSimpArgs false

/-- the stamp that stands first in a list, behind those that are taken -/
def Head (ls : List (List St)) (ats : List Nat) (j : Nat) (z : St) : Prop := ∃ l m, ls[j]? = some l ∧ ats[j]? = some m ∧ l[m]? = some z
/-- what is told, and how many of each list: one by one -/
inductive Play (ls : List (List St)) : List St → List Nat → Prop where
  | nil : Play ls [] (ls.map fun _ => 0)
  | step {out : List St} {ats : List Nat} {b n : Nat} {l : List St} {x : St} : Play ls out ats → ls[b]? = some l → ats[b]? = some n → l[n]? = some x → (∀ y, out.getLast? = some y → sless x y = false) → Play ls (out ++ [x]) (ats.set b (n + 1))
def Sorted (l : List St) : Prop := ∀ i x y, l[i]? = some x → l[i + 1]? = some y → sless y x = false
theorem sless_self (x : St) : sless x x = false := by rw [sless_not]; omega
theorem sless_trans {x y z : St} (h1 : sless z x = false) (h2 : sless y x = true) : sless z y = false := by
  rw [sless_not] at *; rw [sless_iff] at h2; omega
theorem sless_le {x y z : St} (h1 : sless z x = false) (h2 : sless x y = false) : sless z y = false := by
  rw [sless_not] at *; omega
theorem Play.len {ls : List (List St)} {out : List St} {ats : List Nat} (h : Play ls out ats) : ats.length = ls.length := by
  induction h with
  | nil => simp
  | step _ _ _ _ _ ih => rw [List.length_set]; exact ih
theorem Play.le {ls : List (List St)} {out : List St} {ats : List Nat} (h : Play ls out ats) : ∀ (j n : Nat) (l : List St), ats[j]? = some n → ls[j]? = some l → n ≤ l.length := by
  induction h with
  | nil =>
    intro j n l hn hl
    rw [List.getElem?_map, hl] at hn
    obtain rfl : 0 = n := by simpa using hn
    omega
  | @step out ats b m l' x hp hb hm hx _ ih =>
    intro j n l hn hl
    rw [List.getElem?_set] at hn
    split at hn
    · rename_i hbj
      subst hbj
      split at hn
      · obtain rfl : m + 1 = n := by simpa using hn
        rw [hb] at hl
        obtain rfl : l' = l := by simpa using hl
        exact (List.getElem?_eq_some_iff.1 hx).1
      · cases hn
    · exact ih j n l hn hl
theorem sum_set {ats : List Nat} {b n : Nat} (h : ats[b]? = some n) : (ats.set b (n + 1)).sum = ats.sum + 1 := by
  induction ats generalizing b with
  | nil => cases h
  | cons a ats ih =>
    cases b with
    | zero => simp at h; subst h; simp; omega
    | succ b => simp only [List.set_cons_succ, List.sum_cons]; rw [ih (by simpa using h)]; omega
theorem Play.sum {ls : List (List St)} {out : List St} {ats : List Nat} (h : Play ls out ats) : out.length = ats.sum := by
  induction h with
  | nil => induction ls with
    | nil => rfl
    | cons l ls ih => simpa using ih
  | step _ _ hm _ _ ih => rw [List.length_append, sum_set hm, ih]; rfl
theorem sum_le {ls : List (List St)} {ats : List Nat} (hl : ats.length = ls.length) (h : ∀ (j n : Nat) (l : List St), ats[j]? = some n → ls[j]? = some l → n ≤ l.length) : ats.sum ≤ (ls.map List.length).sum := by
  induction ls generalizing ats with
  | nil =>
    cases ats with
    | nil => simp
    | cons => simp at hl
  | cons l ls ih =>
    cases ats with
    | nil => simp at hl
    | cons a ats =>
      have h0 := h 0 a l rfl rfl
      have := ih (ats := ats) (by simpa using hl) (fun j n l' h1 h2 => h (j + 1) n l' (by simpa using h1) (by simpa using h2))
      simp only [List.map_cons, List.sum_cons]; omega
theorem Play.total {ls : List (List St)} {out : List St} {ats : List Nat} (h : Play ls out ats) : out.length ≤ (ls.map List.length).sum := by rw [h.sum]; exact sum_le h.len h.le
/-- at the end, all of each list is told -/
theorem Play.all {ls : List (List St)} {out : List St} {ats : List Nat} (h : Play ls out ats) (hn : ∀ j z, ¬ Head ls ats j z) : ats = ls.map List.length := by
  apply List.ext_getElem?
  intro j
  rw [List.getElem?_map]
  by_cases hj : j < ls.length
  · obtain ⟨l, hl⟩ : ∃ l, ls[j]? = some l := ⟨_, List.getElem?_eq_getElem hj⟩
    obtain ⟨n, hn'⟩ : ∃ n, ats[j]? = some n := ⟨_, List.getElem?_eq_getElem (by rw [h.len]; exact hj)⟩
    have h1 := h.le j n l hn' hl
    have h2 : ¬ n < l.length := fun hlt => hn j _ ⟨l, n, hl, hn', List.getElem?_eq_getElem hlt⟩
    rw [hn', hl]; simp; omega
  · rw [List.getElem?_eq_none (by rw [h.len]; omega), List.getElem?_eq_none (by omega)]; rfl
/-- what holds at the head of each round -/
structure MInv (ls : List (List St)) (out : List St) (ats : List Nat) : Prop where
  play : Play ls out ats
  last : ∀ y, out.getLast? = some y → ∀ j z, Head ls ats j z → sless z y = false
theorem MInv.nil (ls : List (List St)) : MInv ls [] (ls.map fun _ => 0) := ⟨.nil, (fun y hy => by cases hy)⟩
theorem MInv.step {ls : List (List St)} {out : List St} {ats : List Nat} (h : MInv ls out ats) (hs : ∀ l ∈ ls, Sorted l) {b n : Nat} {l : List St} {x : St} (hb : ls[b]? = some l) (hn : ats[b]? = some n) (hx : l[n]? = some x)
    (hbest : ∀ j z, Head ls ats j z → sless z x = false) : MInv ls (out ++ [x]) (ats.set b (n + 1)) := by
  refine ⟨h.play.step hb hn hx (fun y hy => h.last y hy b x ⟨l, n, hb, hn, hx⟩), ?_⟩
  intro y hy j z ⟨l', m, h1, h2, h3⟩
  obtain rfl : x = y := by simpa using hy
  rw [List.getElem?_set] at h2
  split at h2
  · rename_i hbj
    subst hbj
    split at h2
    · obtain rfl : n + 1 = m := by simpa using h2
      rw [hb] at h1
      obtain rfl : l = l' := by simpa using h1
      exact hs l (List.mem_of_getElem? hb) n x z hx h3
    · cases h2
  · exact hbest j z ⟨l', m, h1, h2, h3⟩
/-- the list, of the first so many, of which the first stamp is the least; -1: none has one -/
def Best (ls : List (List St)) (ats : List Nat) (k : Nat) (r : Int) : Prop :=
  (r = -1 ∧ ∀ j z, j < k → ¬ Head ls ats j z) ∨ (∃ (b : Nat) (x : St), r = (b : Int) ∧ b < k ∧ Head ls ats b x ∧ ∀ j z, j < k → Head ls ats j z → sless z x = false)
theorem Best.nil (ls : List (List St)) (ats : List Nat) : Best ls ats 0 (-1) := .inl ⟨rfl, fun j z hj => by omega⟩
theorem Best.skip {ls : List (List St)} {ats : List Nat} {k : Nat} {r : Int} (h : Best ls ats k r) (hk : ∀ z, ¬ Head ls ats k z) : Best ls ats (k + 1) r := by
  rcases h with ⟨h1, h2⟩ | ⟨b, x, h1, h2, h3, h4⟩
  · refine .inl ⟨h1, fun j z hj hh => ?_⟩
    by_cases hjk : j = k
    · subst hjk; exact hk z hh
    · exact h2 j z (by omega) hh
  · refine .inr ⟨b, x, h1, by omega, h3, fun j z hj hh => ?_⟩
    by_cases hjk : j = k
    · subst hjk; exact absurd hh (hk z)
    · exact h4 j z (by omega) hh
theorem head_eq {ls : List (List St)} {ats : List Nat} {j : Nat} {y z : St} (h1 : Head ls ats j y) (h2 : Head ls ats j z) : y = z := by
  obtain ⟨l, m, a1, a2, a3⟩ := h1
  obtain ⟨l', m', b1, b2, b3⟩ := h2
  rw [a1] at b1; rw [a2] at b2
  obtain rfl : l = l' := by simpa using b1
  obtain rfl : m = m' := by simpa using b2
  rw [a3] at b3; simpa using b3
theorem Best.first {ls : List (List St)} {ats : List Nat} {k : Nat} {y : St} (h : Best ls ats k (-1)) (hk : Head ls ats k y) : Best ls ats (k + 1) k := by
  rcases h with ⟨h1, h2⟩ | ⟨b, x, h1, h2, h3, h4⟩
  · refine .inr ⟨k, y, rfl, by omega, hk, fun j z hj hh => ?_⟩
    by_cases hjk : j = k
    · subst hjk; rw [head_eq hh hk]; exact sless_self y
    · exact absurd hh (h2 j z (by omega))
  · omega
theorem Best.less {ls : List (List St)} {ats : List Nat} {k b : Nat} {x y : St} (h : Best ls ats k b) (hb : Head ls ats b x) (hk : Head ls ats k y) (hl : sless y x = true) : Best ls ats (k + 1) k := by
  rcases h with ⟨h1, h2⟩ | ⟨b', x', h1, h2, h3, h4⟩
  · omega
  · obtain rfl : b = b' := by omega
    obtain rfl := head_eq hb h3
    refine .inr ⟨k, y, rfl, by omega, hk, fun j z hj hh => ?_⟩
    by_cases hjk : j = k
    · subst hjk; rw [head_eq hh hk]; exact sless_self y
    · exact sless_trans (h4 j z (by omega) hh) hl
theorem Best.keep {ls : List (List St)} {ats : List Nat} {k b : Nat} {x y : St} (h : Best ls ats k b) (hb : Head ls ats b x) (hk : Head ls ats k y) (hl : sless y x = false) : Best ls ats (k + 1) b := by
  rcases h with ⟨h1, h2⟩ | ⟨b', x', h1, h2, h3, h4⟩
  · omega
  · obtain rfl : b = b' := by omega
    obtain rfl := head_eq hb h3
    refine .inr ⟨b, x, rfl, by omega, hb, fun j z hj hh => ?_⟩
    by_cases hjk : j = k
    · subst hjk; rw [head_eq hh hk]; exact hl
    · exact h4 j z (by omega) hh
theorem Best.is {ls : List (List St)} {ats : List Nat} {k : Nat} {r : Int} (h : Best ls ats k r) : r = -1 ∨ ∃ (b : Nat) (x : St), r = (b : Int) ∧ b < k ∧ Head ls ats b x := by
  rcases h with ⟨h1, _⟩ | ⟨b, x, h1, h2, h3, _⟩
  · exact .inl h1
  · exact .inr ⟨b, x, h1, h2, h3⟩
/-- what is told rises -/
theorem Play.rises {ls : List (List St)} {out : List St} {ats : List Nat} (h : Play ls out ats) : Sorted out := by
  induction h with
  | nil => intro i x y hx; cases hx
  | @step out ats b n l x hp hb hn hx hlast ih =>
    intro i u v hu hv
    by_cases hi : i + 1 < out.length
    · rw [List.getElem?_append_left (by omega)] at hu
      rw [List.getElem?_append_left hi] at hv
      exact ih i u v hu hv
    · have h2 := (List.getElem?_eq_some_iff.1 hv).1
      simp at h2
      rw [List.getElem?_append_right (by omega), show i + 1 - out.length = 0 by omega] at hv
      obtain rfl : x = v := by simpa using hv
      rw [List.getElem?_append_left (by omega)] at hu
      refine hlast u ?_
      rw [List.getLast?_eq_getElem?, show out.length - 1 = i by omega]; exact hu
theorem risesM_of {l : List St} (h : Sorted l) : risesM l = true := by
  match l, h with
  | [], _ => rfl
  | [x], _ => rfl
  | x :: y :: l, h =>
    have h1 := h 0 x y rfl rfl
    have h2 := risesM_of (l := y :: l) (fun i u v hu hv => h (i + 1) u v (by simpa using hu) (by simpa using hv))
    show (!sless y x && risesM (y :: l)) = true
    rw [h1, h2]; rfl
/-- the first so many of what is told, and the next one -/
theorem Play.at_ {ls : List (List St)} {out : List St} {ats : List Nat} (h : Play ls out ats) : ∀ i, i < out.length → ∃ ats' b n l x, Play ls (out.take i) ats' ∧ out[i]? = some x ∧ ls[b]? = some l ∧ ats'[b]? = some n ∧ l[n]? = some x ∧ Play ls (out.take (i + 1)) (ats'.set b (n + 1)) := by
  induction h with
  | nil => intro i hi; simp at hi
  | @step out ats b n l x hp hb hn hx hlast ih =>
    intro i hi
    by_cases h1 : i < out.length
    · obtain ⟨ats', b', n', l', x', k1, k2, k3, k4, k5, k6⟩ := ih i h1
      refine ⟨ats', b', n', l', x', ?_, ?_, k3, k4, k5, ?_⟩
      · rw [List.take_append_of_le_length (by omega)]; exact k1
      · rw [List.getElem?_append_left h1]; exact k2
      · rw [List.take_append_of_le_length (by omega)]; exact k6
    · have hi2 : i = out.length := by simp at hi; omega
      subst hi2
      refine ⟨ats, b, n, l, x, ?_, by simp, hb, hn, hx, ?_⟩
      · simpa using hp
      · rw [List.take_of_length_le (by simp)]
        exact hp.step hb hn hx hlast
theorem play_det {ls : List (List St)} {out : List St} {a1 a2 : List Nat} (hu : ∀ (b : Nat) (l : List St) (x : St), ls[b]? = some l → x ∈ l → x.a = (b : Int)) (h1 : Play ls out a1) (h2 : Play ls out a2) : a1 = a2 := by
  induction h1 generalizing a2 with
  | nil =>
    generalize ho : ([] : List St) = o at h2
    cases h2 with
    | nil => rfl
    | step => simp at ho
  | @step out ats b n l x hp hb hn hx hlast ih =>
    generalize ho : out ++ [x] = o at h2
    cases h2 with
    | nil => simp at ho
    | @step out' ats' b' n' l' x' hp' hb' hn' hx' hlast' =>
      obtain ⟨rfl, h3⟩ := List.append_inj' ho rfl
      obtain rfl : x = x' := by simpa using h3
      have e1 := hu b l x hb (List.mem_of_getElem? hx)
      have e2 := hu b' l' x hb' (List.mem_of_getElem? hx')
      obtain rfl : b = b' := by omega
      obtain rfl := ih hp'
      rw [hn] at hn'
      obtain rfl : n = n' := by simpa using hn'
      rfl
end Go.Proofs.Ytcnoaflojojfkab.Stamp
