/- SchemaNames returns true of every text and number, and leaves memory as it was. No condition. -/
import Derived.Test.YtcnoaflojojfkacSchNPure
import Derived.Test.YtcnoaflojojfkacCloneFld
namespace Go.Proofs.Ytcnoaflojojfkac.SchN
open Go Go.RowKit Go.Proofs.Ytcnoaflojojfkac Go.Proofs.Ytcnoaflojojfkac.Vm
set_option linter.unusedVariables false
theorem tab_ok : tabOk Try.prog cfg.tab cfg.tab = true := by kernel_rfl
theorem names_ok : NamesOk Try.prog := names_of (by kernel_rfl)
theorem walk (s : ByteArray) (n : Int) (w : World) : Calls Try.prog 3 #[.string s, .int .i64 n] w fun e w' => e = .returned (.bool true) ∧ Fr [] w w' := by
  have h : (ev Try.prog cfg 62).call 3 [.str s, .int .i64 n] [] some = some (.bool true, []) := by rw [F3_ev, F3_eq]
  exact law_calls tab_ok (CloneFld.ok (fun f => rfl)) (by kernel_rfl) names_ok h (.cons (.str w s) (.cons (.int w .i64 n) .nil))
theorem rowWalk {p q r : Prop} (s : ByteArray) (_ : p) (_ : q) (n : Int) (_ : r) {w : World} : Calls Try.prog 3 #[.string s, .int .i64 n] w fun e w' => e = .returned (.bool true) ∧ Fr [] w w' := walk s n w
end Go.Proofs.Ytcnoaflojojfkac.SchN
