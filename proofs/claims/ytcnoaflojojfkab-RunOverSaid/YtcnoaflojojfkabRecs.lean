/- Lists of records, as cells: each record takes so many cells. No condition. -/
import Derived.Test.YtcnoaflojojfkabView
namespace Go.Proofs.Ytcnoaflojojfkab
open Go.RowKit
section
variable {α β : Type} {f : α → List β} {s : Nat}
theorem recs_len (hf : ∀ a, (f a).length = s) (l : List α) : (l.flatMap f).length = l.length * s := by
  induction l with
  | nil => simp
  | cons a l ih => rw [List.flatMap_cons, List.length_append, hf, ih, List.length_cons, Nat.succ_mul, Nat.add_comm]
theorem recs_get (hf : ∀ a, (f a).length = s) {l : List α} {i : Nat} {a : α} (h : l[i]? = some a) {k : Nat} (hk : k < s) : (l.flatMap f)[i * s + k]? = (f a)[k]? := by
  induction l generalizing i with
  | nil => cases h
  | cons b l ih =>
    rw [List.flatMap_cons]
    cases i with
    | zero =>
      simp at h; subst h
      rw [Nat.zero_mul, Nat.zero_add, List.getElem?_append_left (by rw [hf]; exact hk)]
    | succ i =>
      rw [List.getElem?_append_right (by rw [hf, Nat.succ_mul]; omega), hf, show (i + 1) * s + k - s = i * s + k by rw [Nat.succ_mul]; omega]
      exact ih (by simpa using h)
theorem recs_set (hf : ∀ a, (f a).length = s) {l : List α} {i : Nat} {a a' : α} {v : β} {k : Nat} (h : l[i]? = some a) (hk : k < s) (hv : f a' = (f a).set k v) : (l.flatMap f).set (i * s + k) v = (l.set i a').flatMap f := by
  induction l generalizing i with
  | nil => cases h
  | cons b l ih =>
    cases i with
    | zero =>
      simp at h; subst h
      rw [List.set_cons_zero, List.flatMap_cons, List.flatMap_cons, hv, Nat.zero_mul, Nat.zero_add, List.set_append_left _ _ (by rw [hf]; exact hk)]
    | succ i =>
      rw [List.set_cons_succ, List.flatMap_cons, List.flatMap_cons, List.set_append_right _ _ (by rw [hf, Nat.succ_mul]; omega), hf, show (i + 1) * s + k - s = i * s + k by rw [Nat.succ_mul]; omega, ih (by simpa using h)]
theorem recs_take (hf : ∀ a, (f a).length = s) (l : List α) (k : Nat) : (l.flatMap f).take (k * s) = (l.take k).flatMap f := by
  induction l generalizing k with
  | nil => simp
  | cons a l ih =>
    cases k with
    | zero => simp
    | succ k =>
      rw [List.take_succ_cons, List.flatMap_cons, List.flatMap_cons, List.take_append, hf, List.take_of_length_le (by rw [hf, Nat.succ_mul]; omega), show (k + 1) * s - s = k * s by rw [Nat.succ_mul]; omega, ih]
theorem recs_drop (hf : ∀ a, (f a).length = s) (l : List α) (k : Nat) : (l.flatMap f).drop (k * s) = (l.drop k).flatMap f := by
  induction l generalizing k with
  | nil => simp
  | cons a l ih =>
    cases k with
    | zero => simp
    | succ k =>
      rw [List.drop_succ_cons, List.flatMap_cons, List.drop_append, hf, List.drop_of_length_le (by rw [hf, Nat.succ_mul]; omega), show (k + 1) * s - s = k * s by rw [Nat.succ_mul]; omega, List.nil_append, ih]
end
/-- one cell of one record that can be read -/
theorem Reads.rec {α : Type} {f : α → List Value} {s : Nat} (hf : ∀ a, (f a).length = s) {w : World} {b o n c : Nat} {l : List α} (h : Reads w s (.slice (some ⟨b, o, none⟩) n c) n (l.flatMap f)) {i : Nat} {a : α} (hi : l[i]? = some a) {k : Nat} {v : Value} (hk : (f a)[k]? = some v) : w.cell? ⟨b, o + i * s + k, none⟩ = some v := by
  have hks : k < s := by rw [← hf a]; exact (List.getElem?_eq_some_iff.1 hk).1
  have hg := (recs_get hf hi hks).trans hk
  obtain ⟨_, a', c', hv, _, h | ⟨b', o', h2, h⟩⟩ := h
  · rw [h] at hg; cases hg
  · simp only [Value.slice.injEq, true_and] at hv
    obtain ⟨rfl, rfl⟩ := hv
    simp only [Option.some.injEq, Addr.mk.injEq, and_true] at h2
    obtain ⟨rfl, rfl⟩ := h2
    have := h _ _ hg
    rwa [← Nat.add_assoc] at this
theorem Reads.rec_form {α : Type} {f : α → List Value} {s : Nat} (hf : ∀ a, (f a).length = s) (hs : 0 < s) {w : World} {v : Value} {n : Nat} {l : List α} (h : Reads w s v n (l.flatMap f)) : n = l.length ∧ ∃ a c, v = .slice a n c ∧ n ≤ c ∧ (l = [] ∨ ∃ b o, a = some ⟨b, o, none⟩) := by
  obtain ⟨hl, a, c, hv, hnc, hr⟩ := h
  rw [recs_len hf] at hl
  refine ⟨(Nat.eq_of_mul_eq_mul_right hs hl).symm, a, c, hv, hnc, ?_⟩
  rcases hr with h | ⟨b, o, h, _⟩
  · left
    have := congrArg List.length h
    rw [recs_len hf] at this
    cases l with
    | nil => rfl
    | cons x l => rw [List.length_cons, List.length_nil] at this; exact absurd this (Nat.ne_of_gt (Nat.mul_pos (Nat.succ_pos l.length) hs))
  · exact .inr ⟨b, o, h⟩
theorem Reads.rec_addr {α : Type} {f : α → List Value} {s : Nat} (hf : ∀ a, (f a).length = s) (hs : 0 < s) {w : World} {a : Option Addr} {n c : Nat} {l : List α} (h : Reads w s (.slice a n c) n (l.flatMap f)) {i : Nat} {x : α} (hi : l[i]? = some x) : ∃ b o, a = some ⟨b, o, none⟩ := by
  obtain ⟨_, a', c', hv, _, hx⟩ := h.rec_form hf hs
  simp only [Value.slice.injEq, true_and] at hv
  obtain ⟨rfl, rfl⟩ := hv
  rcases hx with rfl | hx
  · cases hi
  · exact hx
end Go.Proofs.Ytcnoaflojojfkab
