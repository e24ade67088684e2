/- Stamps: how they lie in memory, and their order. No condition. -/
import Derived.Test.YtcnoaflojojfkabRecs
import Derived.Test.YtcnoaflojojfkabPlan
namespace Go.Proofs.Ytcnoaflojojfkab.Stamp
open Go.RowKit
set_option linter.unusedVariables false
set_option linter.unusedSimpArgs false
set_option maxRecDepth 100000

structure St where
  t : Int
  s : Int
  a : Int
def St.cells (x : St) : List Value := [.int .i64 x.t, .int .i64 x.s, .int .i64 x.a]
theorem St.len (x : St) : x.cells.length = 3 := rfl
/-- is one ahead of another one? -/
def sless (x y : St) : Bool := if x.t = y.t then (if x.s = y.s then decide (x.a < y.a) else decide (x.s < y.s)) else decide (x.t < y.t)
theorem sless_iff (x y : St) : sless x y = true ↔ x.t < y.t ∨ (x.t = y.t ∧ (x.s < y.s ∨ (x.s = y.s ∧ x.a < y.a))) := by
  unfold sless
  split
  · split
    · simp; omega
    · simp; omega
  · simp; omega
theorem sless_not (x y : St) : sless x y = false ↔ ¬ (x.t < y.t ∨ (x.t = y.t ∧ (x.s < y.s ∨ (x.s = y.s ∧ x.a < y.a)))) := by
  rw [← sless_iff, Bool.not_eq_true]
theorem less_any (x y : St) (w : World) : Calls Try.prog 121 #[.agg #[.int .i64 x.t, .int .i64 x.s, .int .i64 x.a], .agg #[.int .i64 y.t, .int .i64 y.s, .int .i64 y.a]] w fun e w' => e = .returned (.bool (sless x y)) ∧ Fr [] w w' := by
  by_cases h1 : x.t = y.t
  · by_cases h2 : x.s = y.s
    · have HE : Hid (decide (x.a < y.a) = sless x y) := by unfold sless; rw [if_pos h1, if_pos h2]; exact rfl
      have e1 : (x.t == y.t) = true := by rw [h1]; simp
      have e2 : (x.s == y.s) = true := by rw [h2]; simp
      clear h1 h2
      go_enter Try.func121, Try.ntmps121
      go_wp2_with fail
      go_ret
      exact ⟨ret_bool HE.out, ((Fr.refl [] w).alloc _).alloc _⟩
    · have HE : Hid (decide (x.s < y.s) = sless x y) := by unfold sless; rw [if_pos h1, if_neg h2]; exact rfl
      have e1 : (x.t == y.t) = true := by rw [h1]; simp
      have e2 : (x.s == y.s) = false := by rw [beq_eq_false_iff_ne]; exact h2
      clear h1 h2
      go_enter Try.func121, Try.ntmps121
      go_wp2_with fail
      go_ret
      exact ⟨ret_bool HE.out, ((Fr.refl [] w).alloc _).alloc _⟩
  · have HE : Hid (decide (x.t < y.t) = sless x y) := by unfold sless; rw [if_neg h1]; exact rfl
    have e1 : (x.t == y.t) = false := by rw [beq_eq_false_iff_ne]; exact h1
    clear h1
    go_enter Try.func121, Try.ntmps121
    go_wp2_with fail
    go_ret
    exact ⟨ret_bool HE.out, ((Fr.refl [] w).alloc _).alloc _⟩

/-- does no stamp of a list stand ahead of the one ahead of it? -/
def risesM : List St → Bool
  | x :: y :: l => !sless y x && risesM (y :: l)
  | _ => true
theorem risesM_drop {l : List St} {k : Nat} {x y : St} (hx : l[k]? = some x) (hy : l[k + 1]? = some y) : risesM (l.drop k) = (!sless y x && risesM (l.drop (k + 1))) := by
  have e1 : l.drop k = x :: l.drop (k + 1) := by
    obtain ⟨hs, rfl⟩ := List.getElem?_eq_some_iff.1 hx
    exact List.drop_eq_getElem_cons hs
  have e2 : l.drop (k + 1) = y :: l.drop (k + 1 + 1) := by
    obtain ⟨hs, rfl⟩ := List.getElem?_eq_some_iff.1 hy
    exact List.drop_eq_getElem_cons hs
  rw [e1, e2]; rfl
theorem risesM_end {l : List St} {k : Nat} (hk : l.length ≤ k + 1) : risesM (l.drop k) = true := by
  have : (l.drop k).length ≤ 1 := by rw [List.length_drop]; omega
  match h : l.drop k, this with
  | [], _ => rfl
  | [x], _ => rfl
end Go.Proofs.Ytcnoaflojojfkab.Stamp
