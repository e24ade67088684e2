/- A region that draws its order, walked by a tree of orders: where two operations are ready that do not only read, both ways are walked. No condition. -/
import Derived.Test.YtcnoaflojojfkabPlan
namespace Go.Proofs.Ytcnoaflojojfkab
open Go.RowKit
set_option linter.unusedVariables false
inductive PT where
  | nil : PT
  | on (i : Nat) (r : PT) : PT
  | one (i : Nat) (r : PT) : PT
  | two (i : Nat) (r : PT) (j : Nat) (s : PT) : PT
  | up (r : PT) : PT
section
variable {P : Program} {ops : Array Oper} {Q : Exit → Act → World → Prop} {S : World → Prop}
def wpHT (P : Program) (ops : Array Oper) (Q : Exit → Act → World → Prop) (S : World → Prop) : PT → Act → World → Prop
  | .nil, a, w => Q .normal a w
  | .on i r, a, w => ∃ o v, ops[i]? = some o ∧ YieldsIf P ops S o v a ∧ wpHT P ops Q S r (a.put o.dst v) w
  | .one i r, a, w => wpOp P ops Q i (fun a' w' => S w' ∧ wpHT P ops Q S r a' w') a w
  | .two i r j s, a, w => wpOp P ops Q i (fun a' w' => S w' ∧ wpHT P ops Q S r a' w') a w ∧ wpOp P ops Q j (fun a' w' => S w' ∧ wpHT P ops Q S s a' w') a w
  | .up r, a, w => ∃ S' : World → Prop, (∀ w, S' w → S w) ∧ S' w ∧ wpHT P ops Q S' r a w
def treeOk (ops : Array Oper) : Nat → Array Bool → PT → Bool
  | _, listed, .nil => (Region.ready .any ops listed).isEmpty
  | f, listed, .up r => treeOk ops f listed r
  | 0, _, _ => false
  | f + 1, listed, .on i r => (Region.ready .any ops listed).contains i && Region.free .any ops listed i && treeOk ops f (listed.setIfInBounds i true) r
  | f + 1, listed, .one i r => decide (Region.ready .any ops listed = [i]) && treeOk ops f (listed.setIfInBounds i true) r
  | f + 1, listed, .two i r j s => decide (Region.ready .any ops listed = [i, j]) && (treeOk ops f (listed.setIfInBounds i true) r && treeOk ops f (listed.setIfInBounds j true) s)
theorem wpAnyH_up {S S' : World → Prop} (hSS : ∀ w, S' w → S w) : ∀ (f : Nat) (listed : Array Bool) (a : Act) (w : World), wpAnyH P .any ops Q S' f listed a w → wpAnyH P .any ops Q S f listed a w
  | 0, _, _, _, h => h
  | f + 1, _, _, _, h => ⟨h.1, fun i hi => wpOp_mono (fun a' w' h' => ⟨hSS _ h'.1, wpAnyH_up hSS f _ a' w' h'.2⟩) (h.2 i hi)⟩
theorem wpAnyH_tree (hs : Region.noSelect ops = true) (hQ : ∀ c a d v w, Q (.panic c) (a.put d v) w → Q (.panic c) a w) :
    ∀ (f : Nat) (l : PT) (S : World → Prop) (listed : Array Bool) (a : Act) (w : World), treeOk ops f listed l = true → S w → wpHT P ops Q S l a w → wpAnyH P .any ops Q S f listed a w
  | f, .up r, S, listed, a, w, hp, _, h => by
    obtain ⟨S', h1, h2, h3⟩ := h
    have hp' : treeOk ops f listed r = true := by cases f <;> simpa [treeOk] using hp
    exact wpAnyH_up h1 _ _ _ _ (wpAnyH_tree hs hQ f r S' listed a w hp' h2 h3)
  | f, .nil, S, listed, a, w, hp, _, h => by
    cases f with
    | zero => exact wpAnyH_done (by simpa [treeOk] using hp) h 0
    | succ f => exact wpAnyH_done (by simpa [treeOk] using hp) h (f + 1)
  | 0, .on _ _, _, _, _, _, hp, _, _ => by simp [treeOk] at hp
  | 0, .one _ _, _, _, _, _, hp, _, _ => by simp [treeOk] at hp
  | 0, .two _ _ _ _, _, _, _, _, hp, _, _ => by simp [treeOk] at hp
  | f + 1, .on i r, S, listed, a, w, hp, hS, h => by
    simp only [treeOk, Bool.and_eq_true] at hp
    obtain ⟨o, v, ho, hy, hk⟩ := h
    exact wpAnyH_take ho hs hp.1.2 hp.1.1 (fun c a w => hQ c a o.dst v w) hy hS (wpAnyH_tree hs hQ f r S _ _ w hp.2 hS hk)
  | f + 1, .one i r, S, listed, a, w, hp, hS, h => by
    simp only [treeOk, Bool.and_eq_true, decide_eq_true_eq] at hp
    refine wpAnyH_all hp.1 (by simp) fun j hj => ?_
    obtain rfl : j = i := by simpa using hj
    exact wpOp_mono (fun a' w' hh => ⟨hh.1, wpAnyH_tree hs hQ f r S _ a' w' hp.2 hh.1 hh.2⟩) h
  | f + 1, .two i r j s, S, listed, a, w, hp, hS, h => by
    simp only [treeOk, Bool.and_eq_true, decide_eq_true_eq] at hp
    refine wpAnyH_all hp.1 (by simp) fun k hk => ?_
    have hk' : k = i ∨ k = j := by simpa using hk
    rcases hk' with rfl | rfl
    · exact wpOp_mono (fun a' w' hh => ⟨hh.1, wpAnyH_tree hs hQ f r S _ a' w' hp.2.1 hh.1 hh.2⟩) h.1
    · exact wpOp_mono (fun a' w' hh => ⟨hh.1, wpAnyH_tree hs hQ f s S _ a' w' hp.2.2 hh.1 hh.2⟩) h.2
/-- .. where the region does not panic -/
theorem wp_region_tree_np (S : World → Prop) (l : PT) {id : Nat} {a : Act} {w : World} (hm : P.follows .mixedOrders = true)
    (hp : (Region.noSelect ops && treeOk ops ops.size (Array.replicate ops.size false) l) = true) (hS : S w.drew)
    (h : wpHT P ops (NoPanic Q) S l a w.drew) : (Code.region id ops true).wp P Q a w := by
  simp only [Bool.and_eq_true] at hp
  exact wp_region_noPanic (wp_region_held (S := S) hm (wpAnyH_tree hp.1 (fun _ _ _ _ _ h => h) _ _ S _ _ _ hp.2 hS h))
theorem ht_done_np {a : Act} {w : World} (h : Q .normal a w) : wpHT P ops (NoPanic Q) S .nil a w := NoPanic.normal h
theorem ht_on {i : Nat} {r : PT} {a : Act} {w : World} {o : Oper} {v : Value} (ho : ops[i]? = some o) (hw : Region.wanted o (yielded ops a.tmps) = true)
    (hv : ∀ w, S w → (execOp a.eval o).run P w = .ok (.value v) w) (k : wpHT P ops Q S r (a.put o.dst v) w) : wpHT P ops Q S (.on i r) a w :=
  ⟨o, v, ho, .inl ⟨hw, hv⟩, k⟩
theorem ht_up (S' : World → Prop) {r : PT} {a : Act} {w : World} (h1 : ∀ w, S' w → S w) (h2 : S' w) (h3 : wpHT P ops Q S' r a w) : wpHT P ops Q S (.up r) a w := ⟨S', h1, h2, h3⟩
theorem ht_off_light {i : Nat} {r : PT} {a : Act} {w : World} {o : Oper} (ho : ops[i]? = some o) (hw : Region.wanted o (yielded ops a.tmps) = false)
    (k : wpHT P ops Q S r (a.put o.dst undef) w) : wpHT P ops Q S (.on i r) a w := ⟨o, undef, ho, .inr ⟨hw, rfl⟩, k⟩
theorem ht_op {i : Nat} {r : PT} {a : Act} {w : World} {o : Oper} (ho : ops[i]? = some o) (hw : Region.wanted o (yielded ops a.tmps) = true)
    (h : ∀ K : Act → World → Prop, Shut (∀ a' w', S w' → (S w' → wpHT P ops Q S r a' w') → K a' w') → Oper.wp P o a w K Q) : wpOp P ops Q i (fun a' w' => S w' ∧ wpHT P ops Q S r a' w') a w := by
  unfold wpOp
  simp only [ho, hw, if_true]
  exact .inl (h _ (fun a' w' hS hk => ⟨hS, hk hS⟩))
theorem ht_one {i : Nat} {r : PT} {a : Act} {w : World} {o : Oper} (ho : ops[i]? = some o) (hw : Region.wanted o (yielded ops a.tmps) = true)
    (h : ∀ K : Act → World → Prop, Shut (∀ a' w', S w' → (S w' → wpHT P ops Q S r a' w') → K a' w') → Oper.wp P o a w K Q) : wpHT P ops Q S (.one i r) a w := ht_op ho hw h
theorem ht_two {i j : Nat} {r s : PT} {a : Act} {w : World} {o o' : Oper} (ho : ops[i]? = some o) (hw : Region.wanted o (yielded ops a.tmps) = true) (ho' : ops[j]? = some o') (hw' : Region.wanted o' (yielded ops a.tmps) = true)
    (h : ∀ K : Act → World → Prop, Shut (∀ a' w', S w' → (S w' → wpHT P ops Q S r a' w') → K a' w') → Oper.wp P o a w K Q)
    (h' : ∀ K : Act → World → Prop, Shut (∀ a' w', S w' → (S w' → wpHT P ops Q S s a' w') → K a' w') → Oper.wp P o' a w K Q) : wpHT P ops Q S (.two i r j s) a w := ⟨ht_op ho hw h, ht_op ho' hw' h'⟩
end
end Go.Proofs.Ytcnoaflojojfkab
