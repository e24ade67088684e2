/- TypingMade returns true of all picks, and leaves memory as it was. No condition. -/
import Derived.Test.YtkfphlmbdppbfaaTyMPure
import Derived.Test.YtkfphlmbdppbfaaCloneTy
import Derived.Test.YtkfphlmbdppbfaaVmOpen
namespace Go.Proofs.Ytkfphlmbdppbfaa.TyM
open Go Go.RowKit Go.Proofs.Ytkfphlmbdppbfaa Go.Proofs.Ytkfphlmbdppbfaa.Vm
set_option linter.unusedVariables false
theorem tab_ok : tabOk Try.prog cfg.tab cfg.tab = true := by kernel_rfl
theorem names_ok : NamesOk Try.prog := names_of (by kernel_rfl)
theorem walk (p : List Int) (n : Int) (v : Value) (w : World) (hl : lstR (memOf w) (.int .i64) p v) : Calls Try.prog 6 #[v, .int .i64 n] w fun e w' => e = .returned (.bool true) ∧ Fr [] w w' :=
  law_calls tab_ok (CloneTy.ok (fun f => rfl)) (by kernel_rfl) names_ok (show (ev Try.prog cfg 100).call 6 [.list (.int .i64) p .no, .int .i64 n] [] some = some (.bool true, []) by rw [F6_ev, F6_true]) (.cons (.list hl) (.cons (.int w .i64 n) .nil))
def rInts : Row := ⟨69, false, [.list (.int .i64)], (.list (.int .i64)), 24, .slice 3⟩
theorem rowWalk {H : Type} {enc : TypeId × Value → H} {w : World} {base : Nat} {spare : Nat → Bool} {held : Bool} {a : Option Addr} {m c : Nat} {x : DataW H} {p : List MemPlace} (h : DataW.Trod enc Try.prog w base spare held 69 (.slice a m c) x p) (n : Int) {r : Prop} (_ : r) :
    Calls Try.prog 6 #[.slice a m c, .int .i64 n] w fun e w' => e = .returned (.bool true) ∧ Fr [] w w' := by
  obtain ⟨fuel, hf⟩ := h
  obtain ⟨l, hl, _⟩ := open_any tab_ok 8 (t := 69) (r := rInts) (by kernel_rfl) (by kernel_rfl) rfl (cs := [.slice a m c]) hf
  obtain ⟨v', e, hl⟩ := hl
  cases e
  exact walk l n _ w hl
end Go.Proofs.Ytkfphlmbdppbfaa.TyM
