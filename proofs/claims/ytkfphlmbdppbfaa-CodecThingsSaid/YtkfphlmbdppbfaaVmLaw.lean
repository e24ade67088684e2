/- A law that the machine comes to is true of the program. No condition. -/
import Derived.Test.YtkfphlmbdppbfaaVmEnd
import Derived.KernelRfl
namespace Go.Proofs.Ytkfphlmbdppbfaa.Vm
open Go Go.RowKit
set_option linter.unusedVariables false
set_option linter.unusedSimpArgs false
/-- memory as it is -/
def memOf (w : World) : Mem := fun b o => w.cell? ⟨b, o, none⟩
theorem Sim.start (w : World) : Sim ⟨[], w, memOf w, []⟩ [] (gLent []) 0 act0 w (memOf w) (fun _ => 0) (fun _ => []) where
  size := rfl
  defers := rfl
  fr := Fr.refl _ _
  mle := Mle.refl _
  mo := fun _ _ _ => rfl
  out := fun _ _ => rfl
  slot := fun i => rfl
  box := fun b hb => by cases hb
  gone := fun b _ j => rfl
  inj := fun b b' hb => by cases hb
  refs := fun k b hb => by cases k <;> cases hb
  stable := fun b o v h => h
  apart := fun b o hb => by cases hb
  free := fun k _ => rfl
  disj := fun k k' x hx => by cases hx
  nodup := fun k => List.nodup_nil
  claim := fun k x hx => by cases hx
  spare := fun x hx => by cases hx
  mineG := fun k x hx => by cases hx
  mineB := fun b hb => by cases hb
  mineX := fun x hx => by cases hx
  pin := fun p hp => by cases hp
/-- an argument that is data -/
structure ArgR (w : World) (v : V) (x : Value) : Prop where
  val : VR ⟨memOf w, fun k => w.heap[k]?, fun _ => 0, fun _ => none⟩ v x []
  keys : keys1 v = []
  refs : v.refs = []
theorem ArgR.int (w : World) (k : IntKind) (n : Int) : ArgR w (.int k n) (.int k n) := ⟨⟨rfl, rfl⟩, rfl, rfl⟩
theorem ArgR.bool (w : World) (b : Bool) : ArgR w (.bool b) (.bool b) := ⟨⟨rfl, rfl⟩, rfl, rfl⟩
theorem ArgR.str (w : World) (s : ByteArray) : ArgR w (.str s) (.string s) := ⟨⟨rfl, rfl⟩, rfl, rfl⟩
theorem ArgR.list {w : World} {t : Ty} {xs : List t.den} {v : Value} (h : lstR (memOf w) t xs v) : ArgR w (.list t xs .no) v := ⟨⟨h, rfl⟩, rfl, rfl⟩
theorem cells_refs : ∀ (t : Ty) (x : t.den), (toCells t x).flatMap refs2 = []
  | .int _, _ => rfl
  | .bool, _ => rfl
  | .str, _ => rfl
  | .unit, _ => rfl
  | .list _, _ => rfl
  | .pair a b, x => by
    show (toCells a x.1 ++ toCells b x.2).flatMap refs2 = []
    rw [List.flatMap_append, cells_refs a, cells_refs b]; rfl
theorem ArgR.agg {w : World} {t : Ty} {x : t.den} {us : List Value} (h : datR (memOf w) t x us) : ArgR w (.agg (toCells t x)) (.agg us.toArray) :=
  ⟨⟨us, rfl, cells_LsR (R := CR _) (fun v x hv hc hk => CR_of_VR hc hk hv) h⟩, rfl, cells_refs t x⟩
inductive ArgsR (w : World) : List V → List Value → Prop where
  | nil : ArgsR w [] []
  | cons {v : V} {x : Value} {vs : List V} {xs : List Value} (h : ArgR w v x) (hs : ArgsR w vs xs) : ArgsR w (v :: vs) (x :: xs)
theorem ArgsR.ls {w : World} : ∀ {vs : List V} {xs : List Value}, ArgsR w vs xs → LsR (VR ⟨memOf w, fun k => w.heap[k]?, fun _ => 0, fun _ => none⟩) vs xs [] ∧ ∀ v ∈ vs, keys1 v = [] ∧ v.refs = []
  | _, _, .nil => ⟨rfl, fun v hv => by cases hv⟩
  | _, _, .cons h hs => by
    obtain ⟨h1, h2⟩ := hs.ls
    refine ⟨⟨[], [], rfl, h.val, h1⟩, fun v hv => ?_⟩
    rcases List.mem_cons.1 hv with e | e
    · rw [e]; exact ⟨h.keys, h.refs⟩
    · exact h2 v e
theorem law_calls {P : Program} {cfg : Cfg} (hT : tabOk P cfg.tab cfg.tab = true) (hL : CloneOk P cfg) (hm : P.follows .mixedOrders = true) (hN : NamesOk P) {f : FuncId} {args : List V} {vals : List Value} {k : Nat} {w : World} {b : Bool}
    (h : (ev P cfg k).call f args [] some = some (.bool b, [])) (ha : ArgsR w args vals) : Calls P f vals.toArray w fun e w' => e = .returned (.bool b) ∧ Fr [] w w' := by
  obtain ⟨r, ⟨_, hr⟩, e⟩ := (ev_sound hT hL hm hN k).1 f args [] some _ h
  cases e
  obtain ⟨h1, h2⟩ := ha.ls
  refine Calls.mono (hr [] w (memOf w) (fun _ => 0) (fun _ => []) vals (Sim.start w) h1 (fun v hv => ⟨(h2 v hv).1, fun b hb => by rw [(h2 v hv).2] at hb; cases hb⟩)) fun e w' he => ?_
  obtain ⟨v, rfl, M', ι', Gs', G, hs, hv, _⟩ := he
  have hv : v = .bool b := hv.1
  subst hv
  exact ⟨rfl, hs.fr⟩
/-- the names of functions, checked by the kernel -/
def namesB (l : List Func) : Bool := l.all fun fn => fn.body.isNone || !(fn.name == "runtime.NumGoroutine")
theorem names_of {P : Program} (h : namesB P.funcs.toList = true) : NamesOk P := by
  intro f fn c hf hb
  unfold namesB at h
  rw [List.all_eq_true] at h
  have := h fn (by
    have hlt := (Array.getElem?_eq_some_iff.1 hf).1
    rw [← (Array.getElem?_eq_some_iff.1 hf).2]
    simp)
  rw [hb] at this
  simpa using this
end Go.Proofs.Ytkfphlmbdppbfaa.Vm
