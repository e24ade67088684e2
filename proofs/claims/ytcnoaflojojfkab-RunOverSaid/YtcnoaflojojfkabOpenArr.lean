/- Arrays of three numbers that came in. No condition. -/
import Derived.Test.YtcnoaflojojfkabRowLib
import Derived.Laws.IdiomArrays
namespace Go.Proofs.Ytcnoaflojojfkab
open Go.ChangeShapes Go.WideShapes Go.ChangeAt Go.RowKit
variable {H : Type} {enc : TypeId × Value → H} {P : Program} {w : World} {base : Nat} {spare : Nat → Bool} {held : Bool}
theorem okWide_array {r : Reach} {b0 : Nat} {t e : TypeId} {n : Nat} {v : Value} (ht : P.underlying t = some (.array n e)) (h : Value.okWide P w r b0 t v) : ∃ cs, v = .agg cs ∧ cs.size = P.cellsOf t := by
  simp only [Value.okWide, ht] at h
  obtain ⟨cs, h1, h2, _⟩ := h
  exact ⟨cs, h1, h2⟩
theorem open_arr3 {r : Reach} {b0 : Nat} {t e : TypeId} {v : Value} {d : DataW H} {ps : List MemPlace} (ht : P.underlying t = some (.array 3 e)) (he : P.underlying e = some (.int .i64)) (hc : P.cellsOf e = 1) (hct : P.cellsOf t = 3)
    (hval : Value.okWide P w r b0 t v) (hd : DataW.Trod enc P w base spare held t v d ps) :
    ∃ n0 n1 n2, v = .agg #[.int .i64 n0, .int .i64 n1, .int .i64 n2] := by
  obtain ⟨cs, rfl, hs⟩ := okWide_array ht hval
  rw [hct] at hs
  obtain ⟨fuel, hf⟩ := hd
  obtain ⟨l, rfl⟩ : ∃ l : List Value, cs = l.toArray := ⟨cs.toList, by simp⟩
  have hl : l.length = 3 := by simpa using hs
  match l, hl with
  | [c0, c1, c2], _ =>
    have hf2 : DataW.trod enc P w base spare held fuel t [c0, c1, c2] = some (d, ps) := by simpa [Value.cells] using hf
    obtain ⟨y0, y1, y2, n, _, h0, h1, h2⟩ := trod_array3 ht hc hf2
    obtain ⟨z0, k0, _, _⟩ := DataW.trod_int he h0
    obtain ⟨z1, k1, _, _⟩ := DataW.trod_int he h1
    obtain ⟨z2, k2, _, _⟩ := DataW.trod_int he h2
    simp only [List.cons.injEq, and_true] at k0 k1 k2
    subst k0 k1 k2
    exact ⟨z0, z1, z2, rfl⟩
end Go.Proofs.Ytcnoaflojojfkab
