/- TypingFields returns true of all numbers, and leaves memory as it was. No condition. -/
import Derived.Test.YtkfphlmbdppbfaaTyFPure
import Derived.Test.YtkfphlmbdppbfaaCloneTy
namespace Go.Proofs.Ytkfphlmbdppbfaa.TyF
open Go Go.RowKit Go.Proofs.Ytkfphlmbdppbfaa Go.Proofs.Ytkfphlmbdppbfaa.Vm
set_option linter.unusedVariables false
theorem tab_ok : tabOk Try.prog cfg.tab cfg.tab = true := by kernel_rfl
theorem names_ok : NamesOk Try.prog := names_of (by kernel_rfl)
theorem walk (n : Int) (w : World) : Calls Try.prog 8 #[.int .i64 n] w fun e w' => e = .returned (.bool true) ∧ Fr [] w w' :=
  law_calls tab_ok (CloneTy.ok (fun f => rfl)) (by kernel_rfl) names_ok (show (ev Try.prog cfg 100).call 8 [.int .i64 n] [] some = some (.bool true, []) by rw [F8_ev, F8_true]) (.cons (.int w .i64 n) .nil)
theorem rowWalk {p : Prop} (n : Int) (_ : p) {w : World} : Calls Try.prog 8 #[.int .i64 n] w fun e w' => e = .returned (.bool true) ∧ Fr [] w w' := walk n w
end Go.Proofs.Ytkfphlmbdppbfaa.TyF
