/- What an argument that can be read as data looks like in memory, for the rows of this seat. No condition. -/
import Derived.Test.YtkfphlmbdppbfaaRows
import Derived.Test.YtkfphlmbdppbfaaView
import Derived.WalkKit
import Derived.ProofKit
import Derived.OpenShut
import Derived.ShutString
import Derived.ChangeOld
import Derived.Below
import Derived.SizedLaws
import Derived.ChangeSlices
namespace Go.Proofs.Ytkfphlmbdppbfaa
open Go.ChangeShapes Go.WideShapes Go.ChangeAt Go.RowKit
set_option linter.unusedVariables false

theorem prog_own : ownKnob Try.prog.godebug = none := by kernel_rfl
theorem prog_laidOut : laidOutB Try.prog = true := by kernel_rfl

/-- A slice of whole numbers that came in: its numbers, that they can be read, and that they are of their kind; it is no longer than the reach allows. -/
theorem open_ints_reads {H : Type} {enc : TypeId × Value → H} {P : Program} {W : World} {base : Nat} {spare : Nat → Bool} {held : Bool} {t e : TypeId} {k : IntKind} {a : Option Addr} {len cap : Nat} {d : DataW H} {ps : List MemPlace} {ts : List TypeId} {ds : List (DataW H)} {j : Nat}
    (hsz : (DataW.weightsEach P ts ds).all (· ≤ reachBytes) = true) (ht : ts[j]? = some t) (hd : ds[j]? = some d) (hu : P.underlying t = some (.slice e)) (he : P.underlying e = some (.int k)) (hc : P.cellsOf e = 1) {B : Nat} (hB : P.bytesOf e = B)
    (h : DataW.Trod enc P W base spare held t (.slice a len cap) d ps) :
    ∃ xs : List Int, len = xs.length ∧ Reads W 1 (.slice a len cap) xs.length (xs.map (Value.int k)) ∧ (∀ x ∈ xs, (Lit.int k x).wf = true) ∧ xs.length * B ≤ 140737488351232 := by
  obtain ⟨fuel, hf⟩ := h
  rcases open_ints hu he hc hf with ⟨hcs, _⟩ | ⟨x, l, c, zs, hcs, _, hl, _, hz, hx, hcell, hwz⟩
  · simp [Value.cells] at hcs
    obtain ⟨rfl, rfl, rfl⟩ := hcs
    exact ⟨[], rfl, Reads.nil W 1, (fun x hx => by cases hx), by simp⟩
  · simp [Value.cells] at hcs
    obtain ⟨rfl, rfl, rfl⟩ := hcs
    obtain ⟨hx, _⟩ := Prod.mk.inj hx
    subst hx
    have hl2 : len ≤ zs.length := by
      rw [hz]
      split
      · exact hl
      · exact Nat.le_refl _
    have hlt : (zs.take len).length = len := by simp; omega
    refine ⟨zs.take len, hlt.symm, ?_, fun y hy => hwz y (List.mem_of_mem_take hy), ?_⟩
    · refine ⟨by simp, some x, cap, by rw [hlt], by omega, ?_⟩
      by_cases h0 : len = 0
      · left; subst h0; simp
      · right
        have hs : x.spot = none := by
          have hcell0 := hcell 0 (by omega)
          have hx0 : x.add 0 = x := by unfold Addr.add; simp
          rw [hx0] at hcell0
          unfold World.cell? at hcell0
          split at hcell0
          · split at hcell0
            · cases hcell0
            · rename_i hsp
              simpa using hsp
          · cases hcell0
        obtain ⟨xb, xo, xs⟩ := x
        obtain rfl : xs = none := hs
        refine ⟨xb, xo, rfl, fun i u hu => ?_⟩
        rw [List.getElem?_map] at hu
        obtain ⟨y, hy, rfl⟩ := Option.map_eq_some_iff.1 hu
        rw [List.getElem?_take] at hy
        split at hy
        · have hi : i < zs.length := (List.getElem?_eq_some_iff.1 hy).1
          have := hcell i hi
          rw [addr_add] at this
          rw [this, List.getD_eq_getElem?_getD, hy]; rfl
        · cases hy
    · have z := sized_slice hsz ht hd hu
      rw [hB] at z
      have h1 : (lits (H := H) k (zs.take len)).length + (lits (H := H) k (zs.drop len)).length = zs.length := by
        simp [lits]
        omega
      rw [h1] at z
      rw [hlt]
      exact Nat.le_trans (Nat.mul_le_mul_right _ hl2) z
end Go.Proofs.Ytkfphlmbdppbfaa
