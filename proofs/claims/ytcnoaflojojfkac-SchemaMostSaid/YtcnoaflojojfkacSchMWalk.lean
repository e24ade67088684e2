/- SchemaMost returns true of every two numbers, and leaves memory as it was. No condition. -/
import Derived.Test.YtcnoaflojojfkacSchMPure
import Derived.Test.YtcnoaflojojfkacCloneFld
namespace Go.Proofs.Ytcnoaflojojfkac.SchM
open Go Go.RowKit Go.Proofs.Ytcnoaflojojfkac Go.Proofs.Ytcnoaflojojfkac.Vm
set_option linter.unusedVariables false
theorem tab_ok : tabOk Try.prog cfg.tab cfg.tab = true := by kernel_rfl
theorem names_ok : NamesOk Try.prog := names_of (by kernel_rfl)
theorem walk (n f : Int) (w : World) : Calls Try.prog 5 #[.int .i64 n, .int .i64 f] w fun e w' => e = .returned (.bool true) ∧ Fr [] w w' :=
  law_calls tab_ok (CloneFld.ok (fun f => rfl)) (by kernel_rfl) names_ok (F5_true n f some) (.cons (.int w .i64 n) (.cons (.int w .i64 f) .nil))
theorem rowWalk {p q : Prop} (n : Int) (_ : p) (f : Int) (_ : q) {w : World} : Calls Try.prog 5 #[.int .i64 n, .int .i64 f] w fun e w' => e = .returned (.bool true) ∧ Fr [] w w' := walk n f w
end Go.Proofs.Ytcnoaflojojfkac.SchM
