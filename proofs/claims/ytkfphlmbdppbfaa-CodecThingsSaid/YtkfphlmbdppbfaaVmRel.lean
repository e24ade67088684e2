/- What the machine's values stand for in memory. No condition. -/
import Derived.Test.YtkfphlmbdppbfaaVm
import Derived.Test.YtkfphlmbdppbfaaView
namespace Go.Proofs.Ytkfphlmbdppbfaa.Vm
open Go Go.RowKit
set_option linter.unusedVariables false
set_option linter.unusedSimpArgs false

/-- memory that does not change any more -/
abbrev Mem := Nat → Nat → Option Value
def datR (M : Mem) : (t : Ty) → t.den → List Value → Prop
  | .int k, n, cs => cs = [.int k n]
  | .bool, b, cs => cs = [.bool b]
  | .str, s, cs => cs = [.string s]
  | .unit, _, cs => cs = []
  | .pair a b, x, cs => ∃ c1 c2, cs = c1 ++ c2 ∧ datR M a x.1 c1 ∧ datR M b x.2 c2
  | .list t, xs, cs => ∃ v, cs = [v] ∧ ∃ a c, v = .slice a (List.length (α := t.den) xs) c ∧ List.length (α := t.den) xs ≤ c ∧
      ∀ (i : Nat) (x : t.den), (show List t.den from xs)[i]? = some x → ∃ b o us, a = some ⟨b, o, none⟩ ∧ datR M t x us ∧ ∀ (j : Nat) (u : Value), us[j]? = some u → M b (o + i * t.size + j) = some u
def lstR (M : Mem) (t : Ty) (xs : List t.den) (v : Value) : Prop :=
  ∃ a c, v = .slice a xs.length c ∧ xs.length ≤ c ∧
    ∀ (i : Nat) (x : t.den), xs[i]? = some x → ∃ b o us, a = some ⟨b, o, none⟩ ∧ datR M t x us ∧ ∀ (j : Nat) (u : Value), us[j]? = some u → M b (o + i * t.size + j) = some u
theorem datR_list {M : Mem} {t : Ty} {xs : List t.den} {cs : List Value} : datR M (.list t) xs cs ↔ ∃ v, cs = [v] ∧ lstR M t xs v := Iff.rfl
def Mle (M M' : Mem) : Prop := ∀ b o v, M b o = some v → M' b o = some v
theorem Mle.refl (M : Mem) : Mle M M := fun _ _ _ h => h
theorem Mle.trans {M M' M'' : Mem} (h : Mle M M') (h' : Mle M' M'') : Mle M M'' := fun b o v e => h' b o v (h b o v e)
theorem datR_len {M : Mem} : ∀ {t : Ty} {x : t.den} {cs : List Value}, datR M t x cs → cs.length = t.size
  | .int _, _, _, h => by cases h; rfl
  | .bool, _, _, h => by cases h; rfl
  | .str, _, _, h => by cases h; rfl
  | .unit, _, _, h => by cases h; rfl
  | .pair a b, _, _, ⟨c1, c2, h, h1, h2⟩ => by rw [h, List.length_append, datR_len h1, datR_len h2]; rfl
  | .list t, _, _, ⟨v, h, _⟩ => by rw [h]; rfl
theorem datR_one {M : Mem} : ∀ {t : Ty} {x : t.den} {cs : List Value}, datR M t x cs → ∀ u ∈ cs, u.oneCell' = true
  | .int _, _, _, h, u, hu => by cases h; simp at hu; rw [hu]; rfl
  | .bool, _, _, h, u, hu => by cases h; simp at hu; rw [hu]; rfl
  | .str, _, _, h, u, hu => by cases h; simp at hu; rw [hu]; rfl
  | .unit, _, _, h, u, hu => by cases h; cases hu
  | .pair a b, _, _, ⟨c1, c2, h, h1, h2⟩, u, hu => by
    rw [h] at hu
    rcases List.mem_append.1 hu with hu | hu
    · exact datR_one h1 u hu
    · exact datR_one h2 u hu
  | .list t, _, _, ⟨v, h, a, c, hv, _⟩, u, hu => by rw [h] at hu; simp at hu; rw [hu, hv]; rfl
theorem datR_mono {M M' : Mem} (hM : Mle M M') : ∀ {t : Ty} {x : t.den} {cs : List Value}, datR M t x cs → datR M' t x cs
  | .int _, _, _, h => h
  | .bool, _, _, h => h
  | .str, _, _, h => h
  | .unit, _, _, h => h
  | .pair a b, _, _, ⟨c1, c2, h, h1, h2⟩ => ⟨c1, c2, h, datR_mono hM h1, datR_mono hM h2⟩
  | .list t, _, _, ⟨v, h, a, c, hv, hl, hx⟩ => ⟨v, h, a, c, hv, hl, fun i x hi => by
      obtain ⟨b, o, us, ha, hd, hu⟩ := hx i x hi
      exact ⟨b, o, us, ha, datR_mono hM hd, fun j u hj => hM _ _ _ (hu j u hj)⟩⟩
theorem lstR_mono {M M' : Mem} (hM : Mle M M') {t : Ty} {xs : List t.den} {v : Value} (h : lstR M t xs v) : lstR M' t xs v := by
  have h2 : datR M (.list t) xs [v] := ⟨v, rfl, h⟩
  obtain ⟨v', e, h3⟩ := datR_mono hM h2
  cases e; exact h3
theorem lstR_nil (M : Mem) (t : Ty) (c : Nat) : lstR M t [] (.slice none 0 c) := ⟨none, c, rfl, Nat.zero_le _, fun i x h => by cases h⟩

/-- the elements of a row, one behind the other -/
def rowsR (M : Mem) (t : Ty) : List t.den → List Value → Prop
  | [], cs => cs = []
  | x :: xs, cs => ∃ c1 c2, cs = c1 ++ c2 ∧ datR M t x c1 ∧ rowsR M t xs c2
theorem rowsR_len {M : Mem} {t : Ty} : ∀ {xs : List t.den} {cs : List Value}, rowsR M t xs cs → cs.length = xs.length * t.size
  | [], _, h => by cases h; simp
  | x :: xs, _, ⟨c1, c2, h, h1, h2⟩ => by rw [h, List.length_append, datR_len h1, rowsR_len h2, List.length_cons, Nat.add_mul]; omega
theorem rowsR_one {M : Mem} {t : Ty} : ∀ {xs : List t.den} {cs : List Value}, rowsR M t xs cs → ∀ u ∈ cs, u.oneCell' = true
  | [], _, h, u, hu => by cases h; cases hu
  | x :: xs, _, ⟨c1, c2, h, h1, h2⟩, u, hu => by
    rw [h] at hu
    rcases List.mem_append.1 hu with hu | hu
    · exact datR_one h1 u hu
    · exact rowsR_one h2 u hu
theorem rowsR_mono {M M' : Mem} (hM : Mle M M') {t : Ty} : ∀ {xs : List t.den} {cs : List Value}, rowsR M t xs cs → rowsR M' t xs cs
  | [], _, h => h
  | x :: xs, _, ⟨c1, c2, h, h1, h2⟩ => ⟨c1, c2, h, datR_mono hM h1, rowsR_mono hM h2⟩
theorem rowsR_append {M : Mem} {t : Ty} : ∀ {xs ys : List t.den} {cs ds : List Value}, rowsR M t xs cs → rowsR M t ys ds → rowsR M t (xs ++ ys) (cs ++ ds)
  | [], _, _, _, h, k => by cases h; exact k
  | x :: xs, _, _, _, ⟨c1, c2, h, h1, h2⟩, k => ⟨c1, c2 ++ _, by rw [h, List.append_assoc], h1, rowsR_append h2 k⟩
theorem rowsR_at {M : Mem} {t : Ty} : ∀ {xs : List t.den} {cs : List Value} {i : Nat} {x : t.den}, rowsR M t xs cs → xs[i]? = some x →
    ∃ us, datR M t x us ∧ ∀ (j : Nat) (u : Value), us[j]? = some u → cs[i * t.size + j]? = some u
  | [], _, i, x, _, h => by cases h
  | y :: xs, _, 0, x, ⟨c1, c2, h, h1, h2⟩, hx => by
    cases hx
    refine ⟨c1, h1, fun j u hj => ?_⟩
    rw [h, Nat.zero_mul, Nat.zero_add, List.getElem?_append_left (List.getElem?_eq_some_iff.1 hj).1]; exact hj
  | y :: xs, _, i + 1, x, ⟨c1, c2, h, h1, h2⟩, hx => by
    obtain ⟨us, hd, hu⟩ := rowsR_at h2 hx
    refine ⟨us, hd, fun j u hj => ?_⟩
    have hl := datR_len h1
    rw [h, List.getElem?_append_right (by rw [hl, Nat.add_mul]; omega), hl, show (i + 1) * t.size + j - t.size = i * t.size + j by rw [Nat.add_mul]; omega]
    exact hu j u hj
/-- a row's elements, out of what stays as it is -/
theorem rowsR_of_lst {M : Mem} {t : Ty} {a : Option Addr} : ∀ {xs : List t.den} {k : Nat}, (∀ (i : Nat) (x : t.den), xs[i]? = some x → ∃ b o us, a = some ⟨b, o, none⟩ ∧ datR M t x us ∧ ∀ (j : Nat) (u : Value), us[j]? = some u → M b (o + (k + i) * t.size + j) = some u) →
    ∃ cs, rowsR M t xs cs ∧ ∀ b o, a = some ⟨b, o, none⟩ → ∀ (j : Nat) (u : Value), cs[j]? = some u → M b (o + k * t.size + j) = some u
  | [], k, _ => ⟨[], rfl, fun _ _ _ j u h => by cases h⟩
  | x :: xs, k, h => by
    obtain ⟨b, o, us, ha, hd, hu⟩ := h 0 x rfl
    obtain ⟨cs, hr, hc⟩ := rowsR_of_lst (xs := xs) (k := k + 1) (fun i y hy => by
      obtain ⟨b', o', us', ha', hd', hu'⟩ := h (i + 1) y hy
      exact ⟨b', o', us', ha', hd', fun j u hj => by rw [show k + 1 + i = k + (i + 1) by omega]; exact hu' j u hj⟩)
    refine ⟨us ++ cs, ⟨us, cs, rfl, hd, hr⟩, fun b' o' ha' j u hj => ?_⟩
    rw [ha] at ha'; cases ha'
    have hl := datR_len hd
    by_cases hlt : j < us.length
    · rw [List.getElem?_append_left hlt] at hj
      have := hu j u hj; rw [Nat.add_zero] at this; exact this
    · rw [List.getElem?_append_right (by omega)] at hj
      have := hc b o ha (j - us.length) u hj
      rw [show o + (k + 1) * t.size + (j - us.length) = o + k * t.size + j by rw [Nat.add_mul]; omega] at this
      exact this
theorem lstR_of_rows {M : Mem} {t : Ty} {xs : List t.den} {cs : List Value} {b o c : Nat} (h : rowsR M t xs cs) (hc : xs.length ≤ c) (hM : ∀ (j : Nat) (u : Value), cs[j]? = some u → M b (o + j) = some u) :
    lstR M t xs (.slice (some ⟨b, o, none⟩) xs.length c) := by
  refine ⟨_, c, rfl, hc, fun i x hi => ?_⟩
  obtain ⟨us, hd, hu⟩ := rowsR_at h hi
  exact ⟨b, o, us, rfl, hd, fun j u hj => by rw [Nat.add_assoc]; exact hM _ u (hu j u hj)⟩
theorem rowsR_zero {M : Mem} {t : Ty} {z : t.den} {cs : List Value} (h : datR M t z cs) : ∀ n : Nat, rowsR M t (List.replicate n z) (List.replicate n cs).flatten
  | 0 => rfl
  | n + 1 => ⟨cs, (List.replicate n cs).flatten, by rw [List.replicate_succ, List.flatten_cons], h, rowsR_zero h n⟩
theorem rowsR_set {M : Mem} {t : Ty} : ∀ {xs : List t.den} {cs : List Value} {i : Nat} {y : t.den} {us : List Value}, rowsR M t xs cs → i < xs.length → datR M t y us →
    rowsR M t (xs.set i y) (cs.take (i * t.size) ++ us ++ cs.drop ((i + 1) * t.size))
  | [], _, i, y, us, _, h, _ => by simp at h
  | x :: xs, _, 0, y, us, ⟨c1, c2, h, h1, h2⟩, _, hy => by
    have hl := datR_len h1
    refine ⟨us, c2, ?_, hy, h2⟩
    rw [h, Nat.zero_mul, List.take_zero, List.nil_append, Nat.zero_add, Nat.one_mul, List.drop_left' hl]
  | x :: xs, _, i + 1, y, us, ⟨c1, c2, h, h1, h2⟩, hi, hy => by
    have hl := datR_len h1
    have ih := rowsR_set (i := i) h2 (by simpa using hi) hy
    refine ⟨c1, _, ?_, h1, ih⟩
    have e1 : (i + 1) * t.size = c1.length + i * t.size := by rw [hl, Nat.add_mul]; omega
    have e2 : (i + 1 + 1) * t.size = c1.length + (i + 1) * t.size := by rw [hl, Nat.add_mul (i + 1)]; omega
    have e3 : List.take ((i + 1) * t.size) (c1 ++ c2) = c1 ++ List.take (i * t.size) c2 := by rw [e1, List.take_length_add_append]
    rw [h, e3, e2, List.drop_length_add_append]
    simp [List.append_assoc]

/-- a slice that is one's own: nil; one to which nothing fits behind; or one whose block is one's own -/
def ownR (M : Mem) (h : Nat → Option Obj) (t : Ty) (xs : List t.den) (s : Bool) (v : Value) (G : List Nat) : Prop :=
  (G = [] ∧ xs = [] ∧ v = .slice none 0 0) ∨
  (G = [] ∧ s = true ∧ lstR M t xs v ∧ ∃ a, v = .slice a xs.length xs.length) ∨
  (∃ g off cap cs e us, G = [g] ∧ v = .slice (some ⟨g, off, none⟩) xs.length cap ∧ h g = some (.cells (Array.mk cs) e (0, 0)) ∧ xs.length ≤ cap ∧ cap ≤ maxLen ∧ off + cap * t.size ≤ cs.length ∧
    rowsR M t xs us ∧ (cs.drop off).take us.length = us ∧ (s = true → ∀ (j : Nat) (u : Value), us[j]? = some u → M g (off + j) = some u) ∧
    (∀ o, (s = false ∨ off + xs.length * t.size ≤ o) → M g o = none))
theorem ownR_mono {M M' : Mem} {h h' : Nat → Option Obj} {t : Ty} {xs : List t.den} {s : Bool} {v : Value} {G : List Nat} (hM : Mle M M') (hG : ∀ g ∈ G, h' g = h g ∧ ∀ o, M' g o = M g o)
    (k : ownR M h t xs s v G) : ownR M' h' t xs s v G := by
  rcases k with k | ⟨h1, h2, h3, h4⟩ | ⟨g, off, cap, cs, e, us, h1, h2, h3, h4, h5, h6, h7, h8, h9, h10⟩
  · exact .inl k
  · exact .inr (.inl ⟨h1, h2, lstR_mono hM h3, h4⟩)
  · obtain ⟨a1, a2⟩ := hG g (by rw [h1]; simp)
    exact .inr (.inr ⟨g, off, cap, cs, e, us, h1, h2, by rw [a1]; exact h3, h4, h5, h6, rowsR_mono hM h7, h8, fun hs j u hj => by rw [a2]; exact h9 hs j u hj, fun o ho => by rw [a2]; exact h10 o ho⟩)
end Go.Proofs.Ytkfphlmbdppbfaa.Vm
