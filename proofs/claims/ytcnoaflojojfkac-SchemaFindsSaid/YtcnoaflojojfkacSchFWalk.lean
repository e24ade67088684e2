/- SchemaFinds returns true of all types and numbers, and leaves memory as it was. No condition. -/
import Derived.Test.YtcnoaflojojfkacSchFNear
import Derived.Test.YtcnoaflojojfkacCloneFld
import Derived.Test.YtcnoaflojojfkacVmOpen
namespace Go.Proofs.Ytcnoaflojojfkac.SchF
open Go Go.RowKit Go.Proofs.Ytcnoaflojojfkac Go.Proofs.Ytcnoaflojojfkac.Vm
set_option linter.unusedVariables false
theorem tab_ok : tabOk Try.prog cfg.tab cfg.tab = true := by kernel_rfl
theorem names_ok : NamesOk Try.prog := names_of (by kernel_rfl)
theorem walk (l : List (ByteArray × List (ByteArray × Int))) (v : Value) (n : Int) (w : World) (hl : lstR (memOf w) (.pair .str (.list (.pair .str (.int .i64)))) l v) : Calls Try.prog 4 #[v, .int .i64 n] w fun e w' => e = .returned (.bool true) ∧ Fr [] w w' := by
  have h : (ev Try.prog cfg 121).call 4 [.list (.pair .str (.list (.pair .str (.int .i64)))) l .no, .int .i64 n] [] some = some (.bool true, []) := by rw [F4_ev, F4_eq]
  exact law_calls tab_ok (CloneFld.ok (fun f => rfl)) (by kernel_rfl) names_ok h (.cons (.list hl) (.cons (.int w .i64 n) .nil))
def rTypes : Row := ⟨26, false, [.list (.pair .str (.list (.pair .str (.int .i64))))], (.list (.pair .str (.list (.pair .str (.int .i64))))), 24, .slice 37⟩
theorem rowWalk {H : Type} {enc : TypeId × Value → H} {w : World} {base : Nat} {spare : Nat → Bool} {held : Bool} {a : Option Addr} {m c : Nat} {x : DataW H} {p : List MemPlace} (h : DataW.Trod enc Try.prog w base spare held 26 (.slice a m c) x p) (n : Int) {r : Prop} (_ : r) :
    Calls Try.prog 4 #[.slice a m c, .int .i64 n] w fun e w' => e = .returned (.bool true) ∧ Fr [] w w' := by
  obtain ⟨fuel, hf⟩ := h
  obtain ⟨l, hl, _⟩ := open_any tab_ok 8 (t := 26) (r := rTypes) (by kernel_rfl) (by kernel_rfl) rfl (cs := [.slice a m c]) hf
  obtain ⟨v', e, hl⟩ := hl
  cases e
  exact walk l _ n w hl
end Go.Proofs.Ytcnoaflojojfkac.SchF
