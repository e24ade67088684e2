/- CodecNumbers returns true of all numbers and texts, and leaves memory as it was. No condition. -/
import Derived.Test.YtkfphlmbdppbfaaCoNPure
import Derived.Test.YtkfphlmbdppbfaaCloneCo
import Derived.Test.YtkfphlmbdppbfaaVmOpen
namespace Go.Proofs.Ytkfphlmbdppbfaa.CoN
open Go Go.RowKit Go.Proofs.Ytkfphlmbdppbfaa Go.Proofs.Ytkfphlmbdppbfaa.Vm
set_option linter.unusedVariables false
theorem tab_ok : tabOk Try.prog cfg.tab cfg.tab = true := by kernel_rfl
theorem names_ok : NamesOk Try.prog := names_of (by kernel_rfl)
theorem walk (l : List Int) (hu : u64s l) (s : ByteArray) (v : Value) (w : World) (hl : lstR (memOf w) (.int .u64) l v) : Calls Try.prog 3 #[v, .string s] w fun e w' => e = .returned (.bool true) ∧ Fr [] w w' :=
  law_calls tab_ok (CloneCo.ok (fun f => rfl)) (by kernel_rfl) names_ok (show (ev Try.prog cfg 100).call 3 [.list (.int .u64) l .no, .str s] [] some = some (.bool true, []) by rw [F3_ev, F3_true l hu]) (.cons (.list hl) (.cons (.str w s) .nil))
theorem u64s_of (l : List Int) (h : ∀ x ∈ l, (Lit.int .u64 x).wf = true) : u64s l := fun i => by
  by_cases hi : i < l.length
  · have h := h (l.getD i 0) (by rw [List.getD_eq_getElem?_getD, List.getElem?_eq_getElem hi]; exact List.getElem_mem hi)
    simp only [Lit.wf, Bool.and_eq_true, decide_eq_true_eq] at h
    have e1 : IntKind.u64.min = 0 := by kernel_rfl
    have e2 : IntKind.u64.max = 18446744073709551615 := by kernel_rfl
    rw [e1, e2] at h
    omega
  · rw [List.getD_eq_getElem?_getD, List.getElem?_eq_none (by omega)]
    exact ⟨by decide, by decide⟩
def rU : Row := ⟨22, false, [.list (.int .u64)], (.list (.int .u64)), 24, .slice 28⟩
theorem rowWalk {H : Type} {enc : TypeId × Value → H} {w : World} {base : Nat} {spare : Nat → Bool} {held : Bool} {a : Option Addr} {m c : Nat} {x : DataW H} {p : List MemPlace} (h : DataW.Trod enc Try.prog w base spare held 22 (.slice a m c) x p) (s : ByteArray) {q r : Prop} (_ : q) (_ : r) :
    Calls Try.prog 3 #[.slice a m c, .string s] w fun e w' => e = .returned (.bool true) ∧ Fr [] w w' := by
  obtain ⟨fuel, hf⟩ := h
  obtain ⟨l, hl, _, hw⟩ := open_any tab_ok 8 (t := 22) (r := rU) (by kernel_rfl) (by kernel_rfl) rfl (cs := [.slice a m c]) hf
  obtain ⟨v', e, hl⟩ := hl
  cases e
  have hu : u64s l := u64s_of l hw
  exact walk l hu s _ w hl
end Go.Proofs.Ytkfphlmbdppbfaa.CoN
