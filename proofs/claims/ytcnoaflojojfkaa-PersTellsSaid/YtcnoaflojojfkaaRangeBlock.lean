/- A loop over an iterator and what stands behind it, once. No condition. -/
import Derived.Test.YtcnoaflojojfkaaRange
namespace Go.Proofs.Ytcnoaflojojfkaa
open Go.RowKit Go.Shelf
set_option linter.unusedVariables false

theorem wp_range_block {P : Program} {α : Type} {id : Nat} {g : Operand} {ps : Array Tmp} {assign body : Code} {Q : Exit → Act → World → Prop} {a : Act} {w : World}
    {gf : Nat} {lb : Array Value} (hg : a.eval g = .func (.func gf) #[] lb) (eg : ∀ args w, (callFunc gf args).run P w = .ok (.enter gf args) w)
    {encs : α → Array Value} {S Sp : List α → Prop} {N : Nat} {St : List Nat} {w0 : World} (hseq : SeqStopsK Fence.wide 8 P gf lb encs (Kept w.heap.size St) S Sp N w0)
    (hb0 : Below w0.heap.size w0 w) (hps : ∀ x, (encs x).size = ps.size)
    (I : List α → World → Prop) (Ix : Code → List α → World → Prop) (hI : Low w.heap.size I) (hIx : ∀ c, Low w.heap.size (Ix c)) (J : Nat → World → Prop) (h0 : I [] w) (a₁ : α → Act)
    (hassign : ∀ (l : Nat) (x : α) (W : World) (K : Act → World → Prop), K (a₁ x) W →
      assign.wpIn (Fence.wide.inRound l) 7 P (Exit.then K (fun _ _ _ => False)) { tmps := (ps.zip (encs x)).foldl (fun t (p, v) => t.setIfInBounds p v) a.tmps, defers := [] } W)
    (hbody : ∀ (l : Nat) (pre : List α) (x : α) (W : World), I pre W → pre.length < N → body.wpIn (Fence.wide.inRound l) 7 P (ownPostK (Kept w.heap.size St) I Ix (pre ++ [x]) W) (a₁ x) W)
    (hdone : ∀ (D : Nat) (xs : List α) (W : World), w.heap.size ≤ D → S xs → I xs W → W.heap[D]? = some (.deferred (some [])) → J D W)
    (hstop : ∀ (D : Nat) (c : Code) (pre : List α) (W : World), w.heap.size ≤ D → Sp pre → Ix c pre W → W.heap[D]? = some (.deferred (some [])) → c = .exit id ∧ J D W)
    (htail : ∀ (D : Nat) (W : World), J D W → Q .normal { a with defers := { target := .collected D, args := #[] } :: a.defers } W) :
    (Code.block id (Code.rangeFunc g ps assign body)).wp P Q a w := by
  refine wp_block (wp_range hg eg hseq hb0 hps I Ix hI hIx h0 a₁ hassign hbody (fun D xs W h1 h2 h3 h4 => htail D W (hdone D xs W h1 h2 h3 h4)) (fun D c pre W h1 h2 h3 h4 => ?_))
  obtain ⟨rfl, hJ⟩ := hstop D c pre W h1 h2 h3 h4
  refine wp_exit ?_
  show if id = id then _ else _
  rw [if_pos rfl]
  exact htail D W hJ
end Go.Proofs.Ytcnoaflojojfkaa
