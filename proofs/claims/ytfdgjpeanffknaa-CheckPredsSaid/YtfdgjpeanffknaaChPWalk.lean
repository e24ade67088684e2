/- CheckPreds returns true of all numbers, and leaves memory as it was. No condition. -/
import Derived.Test.YtfdgjpeanffknaaChPPure
import Derived.Test.YtfdgjpeanffknaaCloneCh
namespace Go.Proofs.Ytfdgjpeanffknaa.ChP
open Go Go.RowKit Go.Proofs.Ytfdgjpeanffknaa Go.Proofs.Ytfdgjpeanffknaa.Vm
set_option linter.unusedVariables false
theorem tab_ok : tabOk Try.prog cfg.tab cfg.tab = true := by kernel_rfl
theorem names_ok : NamesOk Try.prog := names_of (by kernel_rfl)
theorem walk (a b : Int) (w : World) : Calls Try.prog 5 #[.int .i64 a, .int .i64 b] w fun e w' => e = .returned (.bool true) ∧ Fr [] w w' :=
  law_calls tab_ok (CloneCh.ok (fun f => rfl)) (by kernel_rfl) names_ok (show (ev Try.prog cfg 100).call 5 [.int .i64 a, .int .i64 b] [] some = some (.bool true, []) by rw [F5_ev, F5_true]) (.cons (.int w .i64 a) (.cons (.int w .i64 b) .nil))
theorem rowWalk {p q : Prop} (a : Int) (_ : p) (b : Int) (_ : q) {w : World} : Calls Try.prog 5 #[.int .i64 a, .int .i64 b] w fun e w' => e = .returned (.bool true) ∧ Fr [] w w' := walk a b w
end Go.Proofs.Ytfdgjpeanffknaa.ChP
