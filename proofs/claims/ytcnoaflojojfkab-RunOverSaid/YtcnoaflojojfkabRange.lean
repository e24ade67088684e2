/- A loop over an iterator, met in the plain walk. No condition. -/
import Derived.RangeFuncNested
import Derived.RangeFuncBound
import Derived.RangeFuncCalls
import Derived.RangeFuncLeaves
import Derived.RangeFuncFrom
import Derived.Shelf.Abstract
import Derived.Shelf.RegionOpen
import Derived.WalkKit
import Derived.OwnWalkIn
import Derived.TacticsInMore
import Derived.LoopNIn
import Derived.LoopIn
import Derived.Test.YtcnoaflojojfkabView
namespace Go.Proofs.Ytcnoaflojojfkab
open Go.RowKit Go.Shelf
set_option linter.unusedVariables false

/-- blocks below B that are not among S lie as they lay, and the streams do -/
structure Kept (B : Nat) (S : List Nat) (w w' : World) : Prop where
  os : w'.os = w.os
  tape : w'.tape = w.tape
  output : w'.output = w.output
  size : w.heap.size ≤ w'.heap.size
  block : ∀ k, k < B → k < w.heap.size → k ∉ S → w'.heap[k]? = w.heap[k]?
theorem Kept.refl (B : Nat) (S : List Nat) (w : World) : Kept B S w w := ⟨rfl, rfl, rfl, Nat.le_refl _, fun _ _ _ _ => rfl⟩
theorem Kept.trans {B : Nat} {S : List Nat} {a b c : World} (h : Kept B S a b) (k : Kept B S b c) : Kept B S a c :=
  ⟨k.os.trans h.os, k.tape.trans h.tape, k.output.trans h.output, Nat.le_trans h.size k.size, fun i hi hl hn => (k.block i hi (Nat.lt_of_lt_of_le hl h.size) hn).trans (h.block i hi hl hn)⟩
theorem Kept.of_fr {B : Nat} {S : List Nat} {w w' : World} (h : Fr S w w') : Kept B S w w' := ⟨h.os, h.tape, h.output, h.size, fun k _ hl hn => h.block k hl hn⟩
theorem Kept.wide {B : Nat} {S S' : List Nat} {w w' : World} (h : Kept B S w w') (hs : ∀ b ∈ S, b ∈ S') : Kept B S' w w' := ⟨h.os, h.tape, h.output, h.size, fun k hk hl hn => h.block k hk hl (fun hm => hn (hs k hm))⟩
theorem Fr.kept {B : Nat} {S S' : List Nat} {w w1 w2 : World} (h : Fr S w w1) (k : Kept B S' w1 w2) (hB : w.heap.size ≤ B) (hs : ∀ b ∈ S', b ∈ S ∨ w.heap.size ≤ b) : Fr S w w2 :=
  ⟨k.os.trans h.os, k.tape.trans h.tape, k.output.trans h.output, Nat.le_trans h.size k.size, fun i hi hn =>
    (k.block i (Nat.lt_of_lt_of_le hi hB) (Nat.lt_of_lt_of_le hi h.size) (fun hm => (hs i hm).elim hn (fun hle => absurd hle (by omega)))).trans (h.block i hi hn)⟩
theorem Blk.kept {B b : Nat} {S : List Nat} {w w' : World} {cs : List Value} {t : TypeId} (h : Blk w b cs t) (k : Kept B S w w') (hb : b < B) (hn : b ∉ S) : Blk w' b cs t :=
  (k.block b hb h.lt hn).trans h

/-- what is said of blocks below B alone -/
def Low {β : Type} (B : Nat) (I : β → World → Prop) : Prop := ∀ s W W', I s W → Kept B [] W W' → I s W'
theorem Low.own {β : Type} {B : Nat} {I : β → World → Prop} (h : Low B I) : OwnFrom B I := fun s W W' row hs hg hr =>
  h s W W' hs ⟨hg.os, hg.tape, hg.output, hg.size, fun k hk hl _ => hg.block k hl (fun e => by have := (hr k e.symm).1; omega)⟩

theorem KeepsOthers.of_fr {S : List Nat} {W W' : World} (h : Fr S W W') (hS : ∀ b ∈ S, ∃ cs t z, W.heap[b]? = some (.cells cs t z)) : KeepsOthers W W' :=
  ⟨h.size, fun k o hk ho => by
    have hl : k < W.heap.size := (Array.getElem?_eq_some_iff.1 hk).1
    have hn : k ∉ S := fun hm => by
      obtain ⟨cs, t, z, hc⟩ := hS k hm
      rw [hk] at hc
      cases hc
      cases ho
    exact (h.block k hl hn).trans hk⟩

theorem wp_range {P : Program} {α : Type} {g : Operand} {ps : Array Tmp} {assign body : Code} {Q : Exit → Act → World → Prop} {a : Act} {w : World}
    {gf : Nat} {lb : Array Value} (hg : a.eval g = .func (.func gf) #[] lb) (eg : ∀ args w, (callFunc gf args).run P w = .ok (.enter gf args) w)
    {encs : α → Array Value} {S Sp : List α → Prop} {N : Nat} {St : List Nat} {w0 : World} (hseq : SeqStopsK Fence.wide 8 P gf lb encs (Kept w.heap.size St) S Sp N w0)
    (hb0 : Below w0.heap.size w0 w) (hps : ∀ x, (encs x).size = ps.size)
    (I : List α → World → Prop) (Ix : Code → List α → World → Prop) (hI : Low w.heap.size I) (hIx : ∀ c, Low w.heap.size (Ix c)) (h0 : I [] w) (a₁ : α → Act)
    (hassign : ∀ (l : Nat) (x : α) (W : World) (K : Act → World → Prop), K (a₁ x) W →
      assign.wpIn (Fence.wide.inRound l) 7 P (Exit.then K (fun _ _ _ => False)) { tmps := (ps.zip (encs x)).foldl (fun t (p, v) => t.setIfInBounds p v) a.tmps, defers := [] } W)
    (hbody : ∀ (l : Nat) (pre : List α) (x : α) (W : World), I pre W → pre.length < N → body.wpIn (Fence.wide.inRound l) 7 P (ownPostK (Kept w.heap.size St) I Ix (pre ++ [x]) W) (a₁ x) W)
    (hdone : ∀ (D : Nat) (xs : List α) (W : World), w.heap.size ≤ D → S xs → I xs W → W.heap[D]? = some (.deferred (some [])) → Q .normal { a with defers := { target := .collected D, args := #[] } :: a.defers } W)
    (hstop : ∀ (D : Nat) (c : Code) (pre : List α) (W : World), w.heap.size ≤ D → Sp pre → Ix c pre W → W.heap[D]? = some (.deferred (some [])) → c.wp P Q { a with defers := { target := .collected D, args := #[] } :: a.defers } W) :
    (Code.rangeFunc g ps assign body).wp P Q a w :=
  (wpIn_wide (n := 9)).1 (wpIn_rangeFunc_ownF (F := Fence.wide) rfl (by omega) hg trivial eg hseq (fun h k => h.trans k)
    (fun W l o o' hl _ _ _ => ⟨rfl, rfl, rfl, by simp, fun k hk _ _ => World.putObj_heap_other (by omega)⟩)
    hb0 hps I Ix hI.own (fun c => (hIx c).own) h0 a₁ hassign hbody hdone (fun D c pre W h1 h2 h3 h4 => wpIn_wide.2 (hstop D c pre W h1 h2 h3 h4)))

/-- a function whose body holds a loop over an iterator is entered -/
theorem calls_marks {P : Program} {f : FuncId} {fn : Func} {c : Code} {args : Array Value} {w : World} {R : Ending → World → Prop} (hf : P.funcs[f]? = some fn) (hb : fn.body = some c)
    (h : c.wp P (bodyPostM Fence.wide 9 P fn R) { tmps := args ++ Array.replicate (fn.ntmps - args.size) undef, defers := [] } w) : Calls P f args w R :=
  (callsIn_wide (n := 9)).1 (callsIn_of_wp_marks hf hb trivial (wpIn_wide.2 h) rfl)
/-- .. is left where no such loop was begun -/
theorem leaves_plain {P : Program} {fn : Func} {R : Ending → World → Prop} {t : Array Value} {W : World} {v : Value} (hv : (results fn t).run P W = .ok v W) (hR : R (.returned v) W) :
    bodyPostM Fence.wide 9 P fn R .ret { tmps := t, defers := [] } W := ⟨v, hv, hR⟩
/-- .. where one was -/
theorem leaves_loop {P : Program} {fn : Func} {R : Ending → World → Prop} {t : Array Value} {W : World} {v : Value} {D : Nat} (hK : W.heap[D]? = some (.deferred (some [])))
    (hv : (results fn t).run P (W.putObj D (.deferred none)) = .ok v (W.putObj D (.deferred none))) (hR : R (.returned v) (W.putObj D (.deferred none))) :
    bodyPostM Fence.wide 9 P fn R .ret { tmps := t, defers := [{ target := .collected D, args := #[] }] } W := ⟨by simp, .inl ⟨_, _, rfl, run_takeDeferred hK, v, hv, hR⟩⟩
theorem Fr.taken {S : List Nat} {w W : World} {D : Nat} (h : Fr S w W) (hD : w.heap.size ≤ D) (o : Obj) : Fr S w (W.putObj D o) :=
  h.grown (grownBy_putObj' W D o) (fun k e => by cases e; exact .inr hD)
theorem Blk.taken {W : World} {b D : Nat} {cs : List Value} {t : TypeId} (h : Blk W b cs t) (hK : W.heap[D]? = some (.deferred (some []))) (o : Obj) : Blk (W.putObj D o) b cs t := by
  have hne : b ≠ D := fun e => by subst e; unfold Blk at h; rw [hK] at h; cases h
  exact (World.putObj_heap_other (fun e => hne (by omega))).trans h

/-! ### A region that draws, in which all but the last operations only read, met in a fence that is wide -/
section tail
variable {P : Program} {ops : Array Oper} {md : Region.Mode} {w : World} {n : Nat}
theorem wpOpIn_of_stOp {i : Nat} {a : Act} {K : Act → Prop} {K' : Act → World → Prop} {Q' : Exit → Act → World → Prop} (h : ∀ a, K a → K' a w) (hh : stOp P ops w i K a) :
    wpOpIn Fence.wide n P ops Q' i K' a w := by
  unfold stOp at hh
  unfold wpOpIn
  split
  · rename_i ho; simp only [ho] at hh; exact h _ hh
  · rename_i o ho
    simp only [ho] at hh
    split
    · rename_i hw
      simp only [hw, if_true] at hh
      unfold Oper.still at hh
      refine ⟨fun _ _ => trivial, ?_⟩
      rw [Fence.wide_round, Oper.semAt_none]
      generalize (execOp a.eval o).run P w = r at *
      cases r with
      | ok n w' =>
        cases n <;> simp only [Oper.stillUpon] at hh <;> simp only [Oper.uponIn]
        case enter f args =>
          obtain ⟨rfl, v, hc, hn⟩ := hh
          exact ⟨fun hd => by simp [Fence.wide] at hd, callsIn_wide.2 (hc.mono fun e w'' ⟨he, hw⟩ => by subst he; subst hw; exact h _ hn)⟩
        all_goals (obtain ⟨rfl, h2⟩ := hh; exact h _ h2)
      | halt x w' => simp only [Oper.stillUpon] at hh
    · rename_i hw
      simp only [hw] at hh
      exact ⟨fun _ _ => trivial, h _ hh⟩
theorem wpAnyIn_of_head {g k : Nat} {L : Array Bool → Act → Prop} {Q' : Exit → Act → World → Prop} (hL : ∀ listed a, L listed a → wpAnyIn Fence.wide n P md ops Q' g listed a w) :
    ∀ (f : Nat) (listed : Array Bool) (a : Act), wpAnyL P md ops w k L f listed a → wpAnyIn Fence.wide n P md ops Q' (f + g) listed a w
  | 0, listed, a, h => by rw [Nat.zero_add]; exact hL _ _ h
  | f + 1, listed, a, h => by
    rw [show f + 1 + g = (f + g) + 1 by omega]
    exact ⟨fun h0 => absurd h0 h.1, fun i hi => wpOpIn_of_stOp (fun a' h' => wpAnyIn_of_head hL f _ a' h') (h.2 i hi).2⟩
theorem wpAnyIn_of_seq {Q' : Exit → Act → World → Prop} : ∀ (l : List Oper) (k : Nat) (listed : Array Bool) (a : Act) (w : World), (∀ j, l[j]? = ops[k + j]?) →
    Region.seqB md ops l.length k listed = true → wpListIn Fence.wide n P ops Q' l a w → wpAnyIn Fence.wide n P md ops Q' l.length listed a w
  | [], _, _, _, _, _, hB, h => ⟨by simpa [Region.seqB] using hB, h⟩
  | o :: l, k, listed, a, w, hl, hB, h => by
    have h0 : ops[k]? = some o := by simpa using (hl 0).symm
    simp only [List.length_cons, Region.seqB, Bool.and_eq_true, decide_eq_true_eq] at hB
    refine ⟨fun h1 => (by rw [hB.1] at h1; cases h1), fun i hi => ?_⟩
    rw [hB.1] at hi
    have hik : i = k := by simpa using hi
    subst hik
    have hw : wpOpIn Fence.wide n P ops Q' i (wpListIn Fence.wide n P ops Q' l) a w := by unfold wpOpIn; simp only [h0]; exact h
    exact wpOpIn_mono (fun a' w' h' => wpAnyIn_of_seq l (i + 1) _ a' w' (fun j => by have := hl (j + 1); simpa [Nat.add_assoc, Nat.add_comm 1 j] using this) hB.2 h') hw
theorem wpIn_region_still_tail {id : Nat} {Q : Exit → Act → World → Prop} {a : Act} {w : World} {l : List Oper} (k : Nat) (hm : P.follows .mixedOrders = true) (hB : Region.lexTailB .any l.toArray k = true)
    (h : wpStill P l.toArray { w with drawn := w.drawn + 1 } (fun a' => wpListIn Fence.wide n P l.toArray Q (l.drop k) a' { w with drawn := w.drawn + 1 }) (l.take k) a) :
    (Code.region id l.toArray true).wpIn Fence.wide n P Q a w := by
  simp only [Region.lexTailB, Bool.and_eq_true, decide_eq_true_eq] at hB
  obtain ⟨⟨⟨⟨hsel, hn⟩, hs⟩, hc⟩, hlex⟩ := hB
  have hn' : k < l.length := by simpa using hn
  have htl : (l.take k).length = k := by simp; omega
  have hdl : (l.drop k).length = l.toArray.size - k := by simp
  have inv0 : HeadInv .any l.toArray k (Array.replicate l.toArray.size false) :=
    ⟨by simp, fun j oj _ hl => (by rw [getD_replicate_false] at hl; cases hl), fun t _ ht => getD_in (by simpa using ht) (getD_replicate_false _ _)⟩
  have H := wpAnyL_lex (md := .any) (g := l.toArray.size - k) hsel hs hc hn (l.take k) 0 _ a (fun j hj => by
    have hj' : j < k := by rw [htl] at hj; exact hj
    simp [hj']) (by simpa using htl) inv0 (by rw [htl]; exact hlex) h
  refine wpIn_region_any hm ?_
  have := wpAnyIn_of_head (n := n) (Q' := Q) (g := l.toArray.size - k) (fun listed a' hL => by
    have := wpAnyIn_of_seq (n := n) (md := .any) (Q' := Q) (l.drop k) k listed a' { w with drawn := w.drawn + 1 } (fun j => by simp [List.getElem?_drop]) (by rw [hdl]; exact hL.1) hL.2
    rwa [hdl] at this) _ _ _ H
  rw [htl, show k + (l.toArray.size - k) = l.toArray.size by omega] at this
  exact this
end tail
end Go.Proofs.Ytcnoaflojojfkab
