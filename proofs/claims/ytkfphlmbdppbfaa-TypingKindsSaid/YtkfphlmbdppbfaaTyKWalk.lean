/- TypingKinds returns true of all numbers, and leaves memory as it was. No condition. -/
import Derived.Test.YtkfphlmbdppbfaaTyKPure
import Derived.Test.YtkfphlmbdppbfaaCloneTy
namespace Go.Proofs.Ytkfphlmbdppbfaa.TyK
open Go Go.RowKit Go.Proofs.Ytkfphlmbdppbfaa Go.Proofs.Ytkfphlmbdppbfaa.Vm
set_option linter.unusedVariables false
theorem tab_ok : tabOk Try.prog cfg.tab cfg.tab = true := by kernel_rfl
theorem names_ok : NamesOk Try.prog := names_of (by kernel_rfl)
theorem walk (a b c : Int) (w : World) : Calls Try.prog 7 #[.int .i64 a, .int .i64 b, .int .i64 c] w fun e w' => e = .returned (.bool true) ∧ Fr [] w w' :=
  law_calls tab_ok (CloneTy.ok (fun f => rfl)) (by kernel_rfl) names_ok (show (ev Try.prog cfg 100).call 7 [.int .i64 a, .int .i64 b, .int .i64 c] [] some = some (.bool true, []) by rw [F7_ev, F7_true]) (.cons (.int w .i64 a) (.cons (.int w .i64 b) (.cons (.int w .i64 c) .nil)))
theorem rowWalk {p q r : Prop} (a : Int) (_ : p) (b : Int) (_ : q) (c : Int) (_ : r) {w : World} : Calls Try.prog 7 #[.int .i64 a, .int .i64 b, .int .i64 c] w fun e w' => e = .returned (.bool true) ∧ Fr [] w w' := walk a b c w
end Go.Proofs.Ytkfphlmbdppbfaa.TyK
