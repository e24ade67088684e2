/- CodecThings returns true of all events and all that is told, and leaves memory as it was. No condition. -/
import Derived.Test.YtkfphlmbdppbfaaCoTPure
import Derived.Test.YtkfphlmbdppbfaaCloneCo
import Derived.Test.YtkfphlmbdppbfaaVmOpen
namespace Go.Proofs.Ytkfphlmbdppbfaa.CoT
open Go Go.RowKit Go.Proofs.Ytkfphlmbdppbfaa Go.Proofs.Ytkfphlmbdppbfaa.Vm
set_option linter.unusedVariables false
set_option maxRecDepth 100000
theorem tab_ok : tabOk Try.prog cfg.tab cfg.tab = true := by kernel_rfl
theorem names_ok : NamesOk Try.prog := names_of (by kernel_rfl)
abbrev tyE : Ty := (.pair .str (.pair .str (.pair (.int .i64) (.pair (.int .i64) (.list (.pair (.int .i64) (.pair (.int .i64) (.pair .str .bool))))))))
abbrev tyO : Ty := (.pair (.int .i64) (.pair .str (.pair (.int .i64) (.pair .str (.pair (.int .i64) (.pair (.int .i64) (.list (.pair (.int .i64) (.int .i64)))))))))
theorem walk (l : T14) (hin : InOk l) (o : T11) (ho : OIn o) (v : Value) (us : List Value) (w : World) (hl : lstR (memOf w) tyE l v) (hu : datR (memOf w) tyO o us) : Calls Try.prog 5 #[v, .agg us.toArray] w fun e w' => e = .returned (.bool true) ∧ Fr [] w w' :=
  law_calls tab_ok (CloneCo.ok (fun f => rfl)) (by kernel_rfl) names_ok (show (ev Try.prog cfg 200).call 5 [.list tyE l .no, .agg (toCells tyO o)] [] some = some (.bool true, []) from (F5_ev 200 l o some).trans (F5_true l hin o ho _)) (.cons (.list hl) (.cons (.agg hu) .nil))
theorem i64_of {n : Int} (h : (Lit.int .i64 n).wf = true) : is64 n := by
  simp only [Lit.wf, Bool.and_eq_true, decide_eq_true_eq] at h
  have e1 : IntKind.i64.min = -9223372036854775808 := by kernel_rfl
  have e2 : IntKind.i64.max = 9223372036854775807 := by kernel_rfl
  rw [e1, e2] at h
  exact h
theorem inOk_of (l : T14) (h : ∀ x : tyE.den, x ∈ (show List tyE.den from l) → wfT tyE x) : InOk l := fun i hi => by
  have hx : l.getD i zE ∈ l := by rw [List.getD_eq_getElem?_getD, List.getElem?_eq_getElem hi]; exact List.getElem_mem hi
  obtain ⟨_, _, h3, h4, _⟩ := h (l.getD i zE) hx
  exact ⟨i64_of h3, i64_of h4⟩
theorem oIn_of (o : T11) (h : wfT tyO o) : OIn o := by
  obtain ⟨_, _, h3, _, h5, h6, _, h8⟩ := h
  refine ⟨i64_of h3, i64_of h5, i64_of h6, fun i hi => ?_⟩
  have hx : o.2.2.2.2.2.2.getD i zP ∈ o.2.2.2.2.2.2 := by rw [List.getD_eq_getElem?_getD, List.getElem?_eq_getElem hi]; exact List.getElem_mem hi
  obtain ⟨a, b⟩ := h8 (o.2.2.2.2.2.2.getD i zP) hx
  exact ⟨i64_of a, i64_of b⟩
def rE : Row := ⟨47, false, [.list tyE], (.list tyE), 24, .slice 51⟩
def rO : Row := ⟨60, true, [.int .i64, .str, .int .i64, .str, .int .i64, .int .i64, .list (.pair (.int .i64) (.int .i64))], tyO, 88, .struct [(0, 3), (1, 9), (2, 3), (3, 9), (4, 2), (5, 2), (6, 58)]⟩
theorem okWide_struct {P : Program} {w : World} {r : Reach} {b0 : Nat} {t : TypeId} {fs : Array Field} {v : Value} (ht : P.underlying t = some (.struct fs)) (h : Value.okWide P w r b0 t v) : ∃ cs, v = .agg cs ∧ cs.size = P.cellsOf t := by
  simp only [Value.okWide, ht] at h
  obtain ⟨cs, h1, h2, _⟩ := h
  exact ⟨cs, h1, h2⟩
theorem rowWalk {H : Type} {enc : TypeId × Value → H} {w : World} {base b0 : Nat} {spare : Nat → Bool} {held : Bool} {a : Option Addr} {m c : Nat} {x : DataW H} {p : List MemPlace} (h : DataW.Trod enc Try.prog w base spare held 47 (.slice a m c) x p)
    {v : Value} {re : Reach} (hv : Value.okWide Try.prog w re b0 60 v) {x' : DataW H} {p' : List MemPlace} (h' : DataW.Trod enc Try.prog w base spare held 60 v x' p') :
    Calls Try.prog 5 #[.slice a m c, v] w fun e w' => e = .returned (.bool true) ∧ Fr [] w w' := by
  obtain ⟨cs, rfl, hs⟩ := okWide_struct Try.underlying60 hv
  rw [show Try.prog.cellsOf 60 = 7 by kernel_rfl] at hs
  obtain ⟨us, rfl⟩ : ∃ us : List Value, cs = us.toArray := ⟨cs.toList, by simp⟩
  have hlen : us.length = 7 := by simpa using hs
  obtain ⟨fuel, hf⟩ := h
  obtain ⟨fuel', hf'⟩ := h'
  have hf2 : DataW.trod enc Try.prog w base spare held fuel' 60 us = some (x', p') := by simpa [Value.cells] using hf'
  obtain ⟨l, hl, _, hw⟩ := open_any tab_ok 8 (t := 47) (r := rE) (by kernel_rfl) (by kernel_rfl) rfl (cs := [.slice a m c]) hf
  obtain ⟨v', e, hl⟩ := hl
  cases e
  obtain ⟨o, ho, hw'⟩ := open_any tab_ok 8 (t := 60) (r := rO) (by kernel_rfl) (by kernel_rfl) hlen hf2
  exact walk l (inOk_of l hw) o (oIn_of o hw') _ us w hl ho
end Go.Proofs.Ytkfphlmbdppbfaa.CoT
