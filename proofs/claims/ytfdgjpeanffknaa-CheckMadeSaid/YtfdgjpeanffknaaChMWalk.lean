/- CheckMade returns true of all picks, and leaves memory as it was. No condition. -/
import Derived.Test.YtfdgjpeanffknaaChMPure
import Derived.Test.YtfdgjpeanffknaaCloneCh
import Derived.Test.YtfdgjpeanffknaaVmOpen
namespace Go.Proofs.Ytfdgjpeanffknaa.ChM
open Go Go.RowKit Go.Proofs.Ytfdgjpeanffknaa Go.Proofs.Ytfdgjpeanffknaa.Vm
set_option linter.unusedVariables false
theorem tab_ok : tabOk Try.prog cfg.tab cfg.tab = true := by kernel_rfl
theorem names_ok : NamesOk Try.prog := names_of (by kernel_rfl)
theorem walk (p : List Int) (v : Value) (w : World) (hl : lstR (memOf w) (.int .i64) p v) : Calls Try.prog 3 #[v] w fun e w' => e = .returned (.bool true) ∧ Fr [] w w' :=
  law_calls tab_ok (CloneCh.ok (fun f => rfl)) (by kernel_rfl) names_ok (show (ev Try.prog cfg 150).call 3 [.list (.int .i64) p .no] [] some = some (.bool true, []) by rw [F3_ev, F3_true]) (.cons (.list hl) .nil)
def rInts : Row := ⟨22, false, [.list (.int .i64)], (.list (.int .i64)), 24, .slice 3⟩
theorem rowWalk {H : Type} {enc : TypeId × Value → H} {w : World} {base : Nat} {spare : Nat → Bool} {held : Bool} {a : Option Addr} {m c : Nat} {x : DataW H} {p : List MemPlace} (h : DataW.Trod enc Try.prog w base spare held 22 (.slice a m c) x p) :
    Calls Try.prog 3 #[.slice a m c] w fun e w' => e = .returned (.bool true) ∧ Fr [] w w' := by
  obtain ⟨fuel, hf⟩ := h
  obtain ⟨l, hl, _⟩ := open_any tab_ok 8 (t := 22) (r := rInts) (by kernel_rfl) (by kernel_rfl) rfl (cs := [.slice a m c]) hf
  obtain ⟨v', e, hl⟩ := hl
  cases e
  exact walk l _ w hl
end Go.Proofs.Ytfdgjpeanffknaa.ChM
