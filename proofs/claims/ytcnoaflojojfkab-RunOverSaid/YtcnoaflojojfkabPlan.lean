/- A region that draws its order, walked in one order that is told ahead: what only reads is taken first. No condition. -/
import Derived.Test.YtcnoaflojojfkabView
import Derived.Deep.RegionHeld3
namespace Go.Proofs.Ytcnoaflojojfkab
open Go.RowKit
set_option linter.unusedVariables false
section
variable {P : Program} {ops : Array Oper} {Q : Exit → Act → World → Prop} {S : World → Prop}
/-- the operations in a told order; true: it only reads -/
def wpHL (P : Program) (ops : Array Oper) (Q : Exit → Act → World → Prop) (S : World → Prop) : List (Nat × Bool) → Act → World → Prop
  | [], a, w => Q .normal a w
  | (i, true) :: r, a, w => ∃ o v, ops[i]? = some o ∧ YieldsIf P ops S o v a ∧ wpHL P ops Q S r (a.put o.dst v) w
  | (i, false) :: r, a, w => wpOp P ops Q i (fun a' w' => S w' ∧ wpHL P ops Q S r a' w') a w
def planOk (ops : Array Oper) : Nat → Array Bool → List (Nat × Bool) → Bool
  | _, listed, [] => (Region.ready .any ops listed).isEmpty
  | 0, _, _ :: _ => false
  | f + 1, listed, (i, true) :: r => (Region.ready .any ops listed).contains i && Region.free .any ops listed i && planOk ops f (listed.setIfInBounds i true) r
  | f + 1, listed, (i, false) :: r => decide (Region.ready .any ops listed = [i]) && planOk ops f (listed.setIfInBounds i true) r
theorem wpAnyH_plan (hs : Region.noSelect ops = true) (hQ : ∀ c a d v w, Q (.panic c) (a.put d v) w → Q (.panic c) a w) :
    ∀ (f : Nat) (l : List (Nat × Bool)) (listed : Array Bool) (a : Act) (w : World), planOk ops f listed l = true → S w → wpHL P ops Q S l a w → wpAnyH P .any ops Q S f listed a w
  | f, [], listed, a, w, hp, _, h => by
    cases f with
    | zero => exact wpAnyH_done (by simpa [planOk] using hp) h 0
    | succ f => exact wpAnyH_done (by simpa [planOk] using hp) h (f + 1)
  | 0, _ :: _, _, _, _, hp, _, _ => by simp [planOk] at hp
  | f + 1, (i, true) :: r, listed, a, w, hp, hS, h => by
    simp only [planOk, Bool.and_eq_true] at hp
    obtain ⟨o, v, ho, hy, hk⟩ := h
    exact wpAnyH_take ho hs hp.1.2 hp.1.1 (fun c a w => hQ c a o.dst v w) hy hS (wpAnyH_plan hs hQ f r _ _ w hp.2 hS hk)
  | f + 1, (i, false) :: r, listed, a, w, hp, hS, h => by
    simp only [planOk, Bool.and_eq_true, decide_eq_true_eq] at hp
    refine wpAnyH_all hp.1 (by simp) fun j hj => ?_
    obtain rfl : j = i := by simpa using hj
    exact wpOp_mono (fun a' w' hh => ⟨hh.1, wpAnyH_plan hs hQ f r _ a' w' hp.2 hh.1 hh.2⟩) h
theorem wp_region_plan (S : World → Prop) (l : List (Nat × Bool)) {id : Nat} {a : Act} {w : World} (hm : P.follows .mixedOrders = true)
    (hp : (Region.noSelect ops && planOk ops ops.size (Array.replicate ops.size false) l) = true) (hQ : ∀ c a d v w, Q (.panic c) (a.put d v) w → Q (.panic c) a w) (hS : S w.drew)
    (h : wpHL P ops Q S l a w.drew) : (Code.region id ops true).wp P Q a w := by
  simp only [Bool.and_eq_true] at hp
  exact wp_region_held (S := S) hm (wpAnyH_plan hp.1 hQ _ _ _ _ _ hp.2 hS h)
/-- .. where the region does not panic -/
theorem wp_region_plan_np (S : World → Prop) (l : List (Nat × Bool)) {id : Nat} {a : Act} {w : World} (hm : P.follows .mixedOrders = true)
    (hp : (Region.noSelect ops && planOk ops ops.size (Array.replicate ops.size false) l) = true) (hS : S w.drew)
    (h : wpHL P ops (NoPanic Q) S l a w.drew) : (Code.region id ops true).wp P Q a w :=
  wp_region_noPanic (wp_region_plan S l hm hp (fun _ _ _ _ _ h => h) hS h)
theorem hl_done_np {a : Act} {w : World} (h : Q .normal a w) : wpHL P ops (NoPanic Q) S [] a w := NoPanic.normal h
theorem hl_on {i : Nat} {r : List (Nat × Bool)} {a : Act} {w : World} {o : Oper} {v : Value} (ho : ops[i]? = some o) (hw : Region.wanted o (yielded ops a.tmps) = true)
    (hv : ∀ w, S w → (execOp a.eval o).run P w = .ok (.value v) w) (k : wpHL P ops Q S r (a.put o.dst v) w) : wpHL P ops Q S ((i, true) :: r) a w :=
  ⟨o, v, ho, .inl ⟨hw, hv⟩, k⟩
theorem hl_off {i : Nat} {b : Bool} {r : List (Nat × Bool)} {a : Act} {w : World} {o : Oper} (ho : ops[i]? = some o) (hw : Region.wanted o (yielded ops a.tmps) = false) (hS : S w)
    (k : wpHL P ops Q S r (a.put o.dst undef) w) : wpHL P ops Q S ((i, b) :: r) a w := by
  cases b with
  | true => exact ⟨o, undef, ho, .inr ⟨hw, rfl⟩, k⟩
  | false =>
    show wpOp P ops Q i _ a w
    unfold wpOp
    simp only [ho, hw]
    exact ⟨hS, k⟩
theorem hl_off_light {i : Nat} {r : List (Nat × Bool)} {a : Act} {w : World} {o : Oper} (ho : ops[i]? = some o) (hw : Region.wanted o (yielded ops a.tmps) = false)
    (k : wpHL P ops Q S r (a.put o.dst undef) w) : wpHL P ops Q S ((i, true) :: r) a w := ⟨o, undef, ho, .inr ⟨hw, rfl⟩, k⟩
theorem hl_heavy {i : Nat} {r : List (Nat × Bool)} {a : Act} {w : World} {o : Oper} (ho : ops[i]? = some o) (hw : Region.wanted o (yielded ops a.tmps) = true)
    (h : ∀ K : Act → World → Prop, Shut (∀ a' w', S w' → (S w' → wpHL P ops Q S r a' w') → K a' w') → Oper.wp P o a w K Q) : wpHL P ops Q S ((i, false) :: r) a w := by
  show wpOp P ops Q i _ a w
  unfold wpOp
  simp only [ho, hw, if_true]
  exact .inl (h _ (fun a' w' hS hk => ⟨hS, hk hS⟩))
theorem hl_done {a : Act} {w : World} (h : Q .normal a w) : wpHL P ops Q S [] a w := h
end
end Go.Proofs.Ytcnoaflojojfkab
