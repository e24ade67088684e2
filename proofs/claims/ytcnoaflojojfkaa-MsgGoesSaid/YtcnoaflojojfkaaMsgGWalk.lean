/- MsgGoes returns true of all messages and numbers, and leaves memory as it was. No condition. -/
import Derived.Test.YtcnoaflojojfkaaMsgGNear
import Derived.Test.YtcnoaflojojfkaaVmOpen
namespace Go.Proofs.Ytcnoaflojojfkaa.MsgG
open Go Go.RowKit Go.Proofs.Ytcnoaflojojfkaa Go.Proofs.Ytcnoaflojojfkaa.Vm
set_option linter.unusedVariables false
theorem tab_ok : tabOk Try.prog cfg.tab cfg.tab = true := by kernel_rfl
theorem names_ok : NamesOk Try.prog := names_of (by kernel_rfl)
theorem clone_ok : CloneOk Try.prog cfg := fun f z h => by cases h
abbrev tMsg : Ty := (.pair (.int .i64) (.pair (.int .i64) (.pair (.pair .str (.pair .str (.pair (.int .i64) (.pair (.int .i64) (.list (.pair (.int .i64) (.pair (.int .i64) (.pair .str .bool)))))))) (.pair (.int .i64) (.pair .str (.pair (.list (.pair .str (.pair (.list .str) (.pair .bool (.pair (.int .i64) (.pair (.int .i64) (.list (.pair (.int .i64) (.pair (.pair (.int .i64) (.pair (.int .i64) (.pair .str .bool))) (.pair .str .str)))))))))) (.pair (.int .i64) (.int .i64))))))))
theorem walk (l : List Msg) (v : Value) (n : Int) (w : World) (hl : lstR (memOf w) tMsg l v) : Calls Try.prog 14 #[v, .int .i64 n] w fun e w' => e = .returned (.bool true) ∧ Fr [] w w' := by
  have h : (ev Try.prog cfg 201).call 14 [.list tMsg l .no, .int .i64 n] [] some = some (.bool true, []) := (F14_ev 201 l n some).trans (F14_eq l n _)
  exact law_calls tab_ok clone_ok (by kernel_rfl) names_ok h (.cons (.list hl) (.cons (.int w .i64 n) .nil))
def rMsgs : Row := ⟨88, false, [.list (.pair (.int .i64) (.pair (.int .i64) (.pair (.pair .str (.pair .str (.pair (.int .i64) (.pair (.int .i64) (.list (.pair (.int .i64) (.pair (.int .i64) (.pair .str .bool)))))))) (.pair (.int .i64) (.pair .str (.pair (.list (.pair .str (.pair (.list .str) (.pair .bool (.pair (.int .i64) (.pair (.int .i64) (.list (.pair (.int .i64) (.pair (.pair (.int .i64) (.pair (.int .i64) (.pair .str .bool))) (.pair .str .str)))))))))) (.pair (.int .i64) (.int .i64))))))))], (.list (.pair (.int .i64) (.pair (.int .i64) (.pair (.pair .str (.pair .str (.pair (.int .i64) (.pair (.int .i64) (.list (.pair (.int .i64) (.pair (.int .i64) (.pair .str .bool)))))))) (.pair (.int .i64) (.pair .str (.pair (.list (.pair .str (.pair (.list .str) (.pair .bool (.pair (.int .i64) (.pair (.int .i64) (.list (.pair (.int .i64) (.pair (.pair (.int .i64) (.pair (.int .i64) (.pair .str .bool))) (.pair .str .str)))))))))) (.pair (.int .i64) (.int .i64))))))))), 24, .slice 87⟩
theorem rowWalk {H : Type} {enc : TypeId × Value → H} {w : World} {base : Nat} {spare : Nat → Bool} {held : Bool} {a : Option Addr} {m c : Nat} {x : DataW H} {p : List MemPlace} (h : DataW.Trod enc Try.prog w base spare held 88 (.slice a m c) x p) (n : Int) {r : Prop} (_ : r) :
    Calls Try.prog 14 #[.slice a m c, .int .i64 n] w fun e w' => e = .returned (.bool true) ∧ Fr [] w w' := by
  obtain ⟨fuel, hf⟩ := h
  obtain ⟨l, hl, _⟩ := open_any tab_ok 12 (t := 88) (r := rMsgs) (by kernel_rfl) (by kernel_rfl) rfl (cs := [.slice a m c]) hf
  obtain ⟨v', e, hl⟩ := hl
  cases e
  exact walk l _ n w hl
end Go.Proofs.Ytcnoaflojojfkaa.MsgG
