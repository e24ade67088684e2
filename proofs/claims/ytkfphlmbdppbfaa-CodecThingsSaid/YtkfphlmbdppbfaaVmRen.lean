/- Boxes under other names; a state that a call is lent, and the caller's behind it. No condition. -/
import Derived.Test.YtkfphlmbdppbfaaVmOps11
namespace Go.Proofs.Ytkfphlmbdppbfaa.Vm
open Go Go.RowKit
set_option linter.unusedVariables false
set_option linter.unusedSimpArgs false
theorem refs1_ren (f : Nat → Nat) (v : V) : refs1 (ren1 f v) = (refs1 v).map f := by cases v <;> rfl
theorem flatMap_ren (h : V → List Nat) (r : V → V) (f : Nat → Nat) (hr : ∀ v, h (r v) = (h v).map f) : ∀ l : List V, (l.map r).flatMap h = (l.flatMap h).map f
  | [] => rfl
  | v :: l => by rw [List.map_cons, List.flatMap_cons, List.flatMap_cons, List.map_append, hr, flatMap_ren h r f hr l]
theorem refs2_ren (f : Nat → Nat) (v : V) : refs2 (ren2 f v) = (refs2 v).map f := by
  cases v
  case fn g cap => exact flatMap_ren refs1 (ren1 f) f (refs1_ren f) cap
  all_goals rfl
theorem refs3_ren (f : Nat → Nat) (v : V) : refs3 (ren3 f v) = (refs3 v).map f := by
  cases v
  case agg cs => exact flatMap_ren refs2 (ren2 f) f (refs2_ren f) cs
  case fn g cap => exact refs2_ren f (.fn g cap)
  all_goals rfl
theorem refs_ren (f : Nat → Nat) (v : V) : (v.ren f).refs = (v.refs).map f := by
  cases v
  case tup cs => exact flatMap_ren refs3 (ren3 f) f (refs3_ren f) cs
  case agg cs => exact refs3_ren f (.agg cs)
  case fn g cap => exact refs2_ren f (.fn g cap)
  all_goals rfl
theorem undef_ren (f : Nat → Nat) (v : V) : isUndef (v.ren f) = isUndef v := by cases v <;> rfl
theorem old_ren (f : Nat → Nat) (v : V) : isOld (v.ren f) = isOld v := by cases v <;> rfl
theorem keys_ren (f : Nat → Nat) (v : V) : keys1 (v.ren f) = keys1 v := by cases v <;> rfl
theorem undef_go (v : V) : isUndef (goL v) = isUndef v := by
  cases v <;> try rfl
  rename_i t xs o; cases o <;> rfl
theorem old_go (v : V) : isOld (goL v) = false := by
  cases v <;> try rfl
  rename_i t xs o; cases o <;> rfl
theorem refs_go (v : V) : (goL v).refs = v.refs := by
  cases v <;> try rfl
  rename_i t xs o; cases o <;> rfl
theorem LR_ren {M : Mem} {h : Nat → Option Obj} {ι ι' : Nat → Nat} {old old' : Key → Option Value} {f : Nat → Nat} {v : V} {x : Value} {G : List Nat} (hι : ∀ b ∈ refs1 v, ι' (f b) = ι b) (k : LR ⟨M, h, ι, old⟩ v x G) : LR ⟨M, h, ι', old'⟩ (ren1 f v) x G := by
  cases v
  case ref b off => exact ⟨by show x = .pointer (some ⟨ι' (f b), off, none⟩); rw [hι b (by simp [refs1])]; exact k.1, k.2⟩
  case list t xs o => cases o <;> exact k
  all_goals exact k
theorem LsR_ren {R R' : V → Value → List Nat → Prop} (r : V → V) : ∀ {vs : List V} {xs : List Value} {G : List Nat}, (∀ v ∈ vs, ∀ x G, R v x G → R' (r v) x G) → LsR R vs xs G → LsR R' (vs.map r) xs G
  | [], [], _, _, h => h
  | v :: vs, x :: xs, G, hr, ⟨G1, G2, e, h1, h2⟩ => ⟨G1, G2, e, hr v (by simp) x G1 h1, LsR_ren r (fun v hv => hr v (List.mem_cons_of_mem _ hv)) h2⟩
  | [], _ :: _, _, _, h => h.elim
  | _ :: _, [], _, _, h => h.elim
theorem CR2_ren {M : Mem} {h : Nat → Option Obj} {ι ι' : Nat → Nat} {old old' : Key → Option Value} {f : Nat → Nat} {v : V} {x : Value} {G : List Nat} (hι : ∀ b ∈ refs2 v, ι' (f b) = ι b) (k : CR ⟨M, h, ι, old⟩ v x G) : CR ⟨M, h, ι', old'⟩ (ren2 f v) x G := by
  cases v
  case fn g cap =>
    obtain ⟨⟨vals, h1, h2⟩, h3⟩ := k
    exact ⟨⟨vals, h1, LsR_ren (ren1 f) (fun v hv x G k => LR_ren (fun b hb => hι b (List.mem_flatMap.2 ⟨v, hv, hb⟩)) k) h2⟩, h3⟩
  case list t xs o => cases o <;> exact k
  case ref b off => exact LR_ren (v := .ref b off) hι k
  all_goals exact k
theorem CR_ren {M : Mem} {h : Nat → Option Obj} {ι ι' : Nat → Nat} {old old' : Key → Option Value} {f : Nat → Nat} {v : V} {x : Value} {G : List Nat} (hι : ∀ b ∈ v.refs, ι' (f b) = ι b) (k : CR ⟨M, h, ι, old⟩ v x G) : CR ⟨M, h, ι', old'⟩ (v.ren f) x G := by
  have h2 := CR2_ren (f := f) (ι' := ι') (old' := old') (by rw [← CR_refs k]; exact hι) k
  cases v
  case agg => exact k.elim
  case tup => exact k.elim
  all_goals exact h2
theorem AR3_ren {M : Mem} {h : Nat → Option Obj} {ι ι' : Nat → Nat} {old old' : Key → Option Value} {f : Nat → Nat} {v : V} {x : Value} {G : List Nat} (hι : ∀ b ∈ refs3 v, ι' (f b) = ι b) (k : AR ⟨M, h, ι, old⟩ v x G) : AR ⟨M, h, ι', old'⟩ (ren3 f v) x G := by
  cases v
  case agg cs =>
    obtain ⟨vals, h1, h2⟩ := k
    exact ⟨vals, h1, LsR_ren (ren2 f) (fun v hv x G k => CR2_ren (fun b hb => hι b (List.mem_flatMap.2 ⟨v, hv, hb⟩)) k) h2⟩
  case fn g cap => exact CR2_ren (v := .fn g cap) hι k
  case list t xs o => cases o <;> exact k
  case ref b off => exact LR_ren (v := .ref b off) hι k
  all_goals exact k
theorem TR3_ren {M : Mem} {h : Nat → Option Obj} {ι ι' : Nat → Nat} {old old' : Key → Option Value} {f : Nat → Nat} {v : V} {x : Value} {G : List Nat} (hι : ∀ b ∈ refs3 v, ι' (f b) = ι b) (k : TR ⟨M, h, ι, old⟩ v x G) : TR ⟨M, h, ι', old'⟩ (ren3 f v) x G := by
  cases v
  case agg cs => exact ⟨AR3_ren (v := .agg cs) hι k.1, k.2⟩
  case fn g cap => exact CR2_ren (v := .fn g cap) hι k
  case list t xs o => cases o <;> exact k
  case ref b off => exact LR_ren (v := .ref b off) hι k
  all_goals exact k
theorem VR_ren {M : Mem} {h : Nat → Option Obj} {ι ι' : Nat → Nat} {old old' : Key → Option Value} {f : Nat → Nat} {v : V} {x : Value} {G : List Nat} (hι : ∀ b ∈ v.refs, ι' (f b) = ι b) (hk : keys1 v = []) (k : VR ⟨M, h, ι, old⟩ v x G) : VR ⟨M, h, ι', old'⟩ (v.ren f) x G := by
  cases v
  case tup cs =>
    obtain ⟨vals, h1, h2⟩ := k
    exact ⟨vals, h1, LsR_ren (ren3 f) (fun v hv x G k => TR3_ren (fun b hb => hι b (List.mem_flatMap.2 ⟨v, hv, hb⟩)) k) h2⟩
  case alias => cases hk
  case ep => cases hk
  case agg cs => exact AR3_ren (v := .agg cs) hι k
  case fn g cap => exact CR2_ren (v := .fn g cap) hι k
  case list t xs o => cases o <;> exact k
  case ref b off => exact LR_ren (v := .ref b off) hι k
  all_goals exact k
/-- the boxes that a call is lent, as a state -/
def gLent (lent : List Box) : Key → V
  | .c b j => nth (nthB lent b) j
  | .s _ => .undef
def act0 : Act := { tmps := #[], defers := [] }
section
variable {B : Bs} {X X' : List Nat} {g : Key → V} {n : Nat} {a : Act} {w : World} {M : Mem} {ι : Nat → Nat} {Gs : Key → List Nat}
theorem Sim.box_lt (hs : Sim B X g n a w M ι Gs) {b : Nat} (hb : live g b) : ι b < w.heap.size := by
  obtain ⟨cs, t, h1, _⟩ := hs.box b hb
  rcases Nat.lt_or_ge (ι b) w.heap.size with h | h
  · exact h
  · rw [Array.getElem?_eq_none h] at h1; cases h1
/-- the caller's state behind a call -/
def gMerge (g g2 : Key → V) (ψ : Nat → Option Nat) (fwd : Nat → Nat) : Key → V
  | .s i => g (.s i)
  | .c b j => match ψ b with
    | some i => goL ((g2 (.c i j)).ren fwd)
    | none => g (.c b j)
def ιMerge (ι ι2 : Nat → Nat) (ψ : Nat → Option Nat) : Nat → Nat := fun b => match ψ b with
  | some i => ι2 i
  | none => ι b
def GMerge (Gs Gs2 : Key → List Nat) (ψ : Nat → Option Nat) : Key → List Nat
  | .s i => Gs (.s i)
  | .c b j => match ψ b with
    | some i => Gs2 (.c i j)
    | none => Gs (.c b j)
theorem Sim.merge (hs : Sim B [] g n a w M ι Gs) {L G : List Nat} {g2 : Key → V} {w' : World} {M' : Mem} {ι2 : Nat → Nat} {Gs2 : Key → List Nat} (hs2 : Sim ⟨L, w, M, []⟩ G g2 0 act0 w' M' ι2 Gs2) {ψ : Nat → Option Nat} {fwd : Nat → Nat}
    (h1 : ∀ b i, ψ b = some i → fwd i = b) (h2 : ∀ i, live g2 i → ψ (fwd i) = some i) (h3 : ∀ b i, ψ b = some i → live g b → live g2 i)
    (h4 : ∀ b i, ψ b = some i → live g b → ι2 i = ι b) (h5 : ∀ b i, ψ b = some i → n ≤ b → live g b) (hL : ∀ x ∈ L, (∃ b i, ψ b = some i ∧ live g b ∧ ι b = x) ∨ ∃ b i j, ψ b = some i ∧ live g b ∧ x ∈ Gs (.c b j)) :
    Sim B G (gMerge g g2 ψ fwd) n a w' M' (ιMerge ι ι2 ψ) (GMerge Gs Gs2 ψ) := by
  have hcs : ∀ {b i : Nat} (j : Nat), ψ b = some i → gMerge g g2 ψ fwd (.c b j) = goL ((g2 (.c i j)).ren fwd) := fun j e => by simp only [gMerge, e]
  have hcn : ∀ {b : Nat} (j : Nat), ψ b = none → gMerge g g2 ψ fwd (.c b j) = g (.c b j) := fun j e => by simp only [gMerge, e]
  have hιs : ∀ {b i : Nat}, ψ b = some i → ιMerge ι ι2 ψ b = ι2 i := fun e => by simp only [ιMerge, e]
  have hιn : ∀ {b : Nat}, ψ b = none → ιMerge ι ι2 ψ b = ι b := fun e => by simp only [ιMerge, e]
  have hGs : ∀ {b i : Nat} (j : Nat), ψ b = some i → GMerge Gs Gs2 ψ (.c b j) = Gs2 (.c i j) := fun j e => by simp only [GMerge, e]
  have hGn : ∀ {b : Nat} (j : Nat), ψ b = none → GMerge Gs Gs2 ψ (.c b j) = Gs (.c b j) := fun j e => by simp only [GMerge, e]
  have hund : ∀ {b i : Nat} (j : Nat), ψ b = some i → isUndef (gMerge g g2 ψ fwd (.c b j)) = isUndef (g2 (.c i j)) := fun j e => by rw [hcs j e, undef_go, undef_ren]
  have hls : ∀ {b i : Nat}, ψ b = some i → (live (gMerge g g2 ψ fwd) b ↔ live g2 i) := fun e => by unfold live; rw [hund 0 e]
  have hln : ∀ {b : Nat}, ψ b = none → (live (gMerge g g2 ψ fwd) b ↔ live g b) := fun e => by unfold live; rw [hcn 0 e]
  have hlive : ∀ b, live g b → live (gMerge g g2 ψ fwd) b := fun b hb => by
    cases e : ψ b with
    | none => exact (hln e).2 hb
    | some i => exact (hls e).2 (h3 b i e hb)
  -- what is not lent is not touched
  have hmine : ∀ x, (⟨L, w, M, []⟩ : Bs).mine x → B.mine x := by
    intro x hx
    rcases hx with hx | hx
    · rcases hL x hx with ⟨b, i, _, hb, e⟩ | ⟨b, i, j, _, _, e⟩
      · rw [← e]; exact hs.mineB b hb
      · exact hs.mineG _ x e
    · exact .inr (Nat.le_trans hs.fr.size hx)
  have hbN : ∀ b, live g b → ψ b = none → ¬ (⟨L, w, M, []⟩ : Bs).mine (ι b) := by
    intro b hb e hm
    rcases hm with hm | hm
    · rcases hL _ hm with ⟨b', i, e', hb', e2⟩ | ⟨b', i, j, _, _, e2⟩
      · rw [hs.inj b' b hb' hb e2, e] at e'; cases e'
      · exact (hs.claim _ _ e2).2 b hb rfl
    · exact absurd (hs.box_lt hb) (by have : w.heap.size ≤ ι b := hm; omega)
  have hkN : ∀ k, (∀ b i j, ψ b = some i → live g b → k ≠ .c b j) → ∀ x ∈ Gs k, ¬ (⟨L, w, M, []⟩ : Bs).mine x := by
    intro k hk x hx hm
    rcases hm with hm | hm
    · rcases hL _ hm with ⟨b', i, e', hb', e2⟩ | ⟨b', i, j, e', hb', e2⟩
      · exact (hs.claim k x hx).2 b' hb' e2
      · exact hk b' i j e' hb' (hs.disj k _ x hx e2)
    · exact absurd (hs.claim k x hx).1 (by have : w.heap.size ≤ x := hm; omega)
  have hblk : ∀ x, x < w.heap.size → ¬ (⟨L, w, M, []⟩ : Bs).mine x → w'.heap[x]? = w.heap[x]? := fun x hx hm => hs2.fr.block x hx (fun h => hm (.inl h))
  have hsN : ∀ i, ∀ x ∈ Gs (.s i), ¬ (⟨L, w, M, []⟩ : Bs).mine x := fun i => hkN _ (fun b i' j _ _ e => by cases e)
  have hcN : ∀ b j, ψ b = none → ∀ x ∈ Gs (.c b j), ¬ (⟨L, w, M, []⟩ : Bs).mine x := fun b j e => hkN _ (fun b' i' j' e' _ e2 => by cases e2; rw [e] at e'; cases e')
  have hval : ∀ k, isOld (gMerge g g2 ψ fwd k) = true → gMerge g g2 ψ fwd k = g k ∧ valAt a (fun k => w'.heap[k]?) (ιMerge ι ι2 ψ) k = valAt a (fun k => w.heap[k]?) ι k := by
    intro k hk
    cases k with
    | s i => exact ⟨rfl, rfl⟩
    | c b j =>
      cases e : ψ b with
      | some i => rw [hcs j e, old_go] at hk; cases hk
      | none =>
        rw [hcn j e] at hk ⊢
        refine ⟨rfl, ?_⟩
        have hb : live g b := hs.live_of (old_undef hk)
        simp only [valAt]
        rw [hιn e, hblk _ (hs.box_lt hb) (hbN b hb e)]
  have hold : ∀ k v', oldAt (gMerge g g2 ψ fwd) (valAt a (fun k => w'.heap[k]?) (ιMerge ι ι2 ψ)) k = some v' → oldAt g (valAt a (fun k => w.heap[k]?) ι) k = some v' := by
    intro k v' h
    unfold oldAt at h ⊢
    split at h
    · rename_i hk
      obtain ⟨e1, e2⟩ := hval k hk
      rw [e1] at hk
      rw [if_pos hk, ← e2]; exact h
    · cases h
  have hιl : ∀ b, live g b → ιMerge ι ι2 ψ b = ι b ∨ ∃ i, ψ b = some i := fun b hb => by
    cases e : ψ b with
    | none => exact .inl (hιn e)
    | some i => exact .inr ⟨i, rfl⟩
  have hle1 : ∀ k, (∀ x ∈ Gs k, ¬ (⟨L, w, M, []⟩ : Bs).mine x) → (∀ b ∈ (g k).refs, ψ b = none ∨ ιMerge ι ι2 ψ b = ι b) → En.le (enOf g a (fun k => w.heap[k]?) M ι) (enOf (gMerge g g2 ψ fwd) a (fun k => w'.heap[k]?) M' (ιMerge ι ι2 ψ)) (g k).refs (Gs k) := fun k hk hr =>
    ⟨hs2.mle, fun x hx => ⟨hblk x (hs.claim k x hx).1 (hk x hx), fun o => hs2.mo x o (hk x hx)⟩, fun b hb => (hr b hb).elim hιn id⟩
  have hιsame : ∀ b, live g b → ψ b = none ∨ ιMerge ι ι2 ψ b = ι b := fun b hb => by
    cases e : ψ b with
    | none => exact .inl rfl
    | some i => exact .inr (by rw [hιs e]; exact h4 b i e hb)
  have hwlt : w.heap.size ≤ w'.heap.size := hs2.fr.size
  refine { size := hs.size, defers := hs.defers, pin := ?pin, fr := hs.fr.trans hs2.fr (fun x hx => hmine x (.inl hx)), mle := hs.mle.trans hs2.mle, mo := ?_, out := hs.out, slot := ?_, box := ?_, gone := ?_, inj := ?_, refs := ?_, stable := hs2.stable, apart := ?_, free := ?_, disj := ?_, nodup := ?_, claim := ?_, spare := ?_, mineG := ?_, mineB := ?_, mineX := fun x hx => hmine x (hs2.mineX x hx) }
  case pin =>
    intro p hp
    obtain ⟨k1, k2⟩ := hs.pin p hp
    refine ⟨k1, fun h => ?_⟩
    cases e : ψ p.1 with
    | some i =>
      have hb := h5 p.1 i e k1
      rw [hιs e, h4 p.1 i e hb]; exact k2 hb
    | none => rw [hιn e]; exact k2 ((hln e).1 h)
  · intro x o hx
    rw [hs2.mo x o (fun h => hx (hmine x h))]; exact hs.mo x o hx
  · intro i
    exact VR_mono (hle1 (.s i) (hsN i) (fun b hb => hιsame b (hs.refs _ b hb))) (fun k _ v' h => hold k v' h) (hs.slot i)
  · intro b hb
    cases e : ψ b with
    | some i =>
      obtain ⟨cs, t, k1, k2⟩ := hs2.box i ((hls e).1 hb)
      refine ⟨cs, t, by rw [hιs e]; exact k1, fun j => ?_⟩
      rw [hund j e, hcs j e, hGs j e]
      refine ⟨(k2 j).1, fun v hv => ⟨((k2 j).2 v hv).1, CR_goes (CR_ren (fun b' hb' => ?_) ((k2 j).2 v hv).2)⟩⟩
      exact hιs (h2 b' (hs2.refs _ b' hb'))
    | none =>
      have hb' := (hln e).1 hb
      obtain ⟨cs, t, k1, k2⟩ := hs.box b hb'
      refine ⟨cs, t, by rw [hιn e, hblk _ (hs.box_lt hb') (hbN b hb' e)]; exact k1, fun j => ?_⟩
      rw [hcn j e, hGn j e]
      refine ⟨(k2 j).1, fun v hv => ⟨((k2 j).2 v hv).1, ?_⟩⟩
      have hcr := ((k2 j).2 v hv).2
      have hle := hle1 (.c b j) (hcN b j e) (fun b hb => hιsame b (hs.refs _ b hb))
      rw [CR_refs hcr] at hle
      exact CR_mono hle hcr
  · intro b hb j
    cases e : ψ b with
    | some i => rw [hcs j e, hs2.gone i (fun h => hb ((hls e).2 h)) j]; rfl
    | none => rw [hcn j e]; exact hs.gone b (fun h => hb ((hln e).2 h)) j
  · intro b b' hb hb' e
    cases e1 : ψ b with
    | some i =>
      have hi := (hls e1).1 hb
      cases e2 : ψ b' with
      | some i' =>
        have hi' := (hls e2).1 hb'
        rw [hιs e1, hιs e2] at e
        rw [← h1 b i e1, ← h1 b' i' e2, hs2.inj i i' hi hi' e]
      | none =>
        rw [hιs e1, hιn e2] at e
        exact absurd (e ▸ hs2.mineB i hi) (hbN b' ((hln e2).1 hb') e2)
    | none =>
      cases e2 : ψ b' with
      | some i' =>
        have hi' := (hls e2).1 hb'
        rw [hιn e1, hιs e2] at e
        exact absurd (e.symm ▸ hs2.mineB i' hi') (hbN b ((hln e1).1 hb) e1)
      | none =>
        rw [hιn e1, hιn e2] at e
        exact hs.inj b b' ((hln e1).1 hb) ((hln e2).1 hb') e
  · intro k b hb
    cases k with
    | s i => exact hlive b (hs.refs (.s i) b hb)
    | c b' j =>
      cases e : ψ b' with
      | none => rw [hcn j e] at hb; exact hlive b (hs.refs _ b hb)
      | some i =>
        rw [hcs j e, refs_go, refs_ren] at hb
        obtain ⟨r, hr, rfl⟩ := List.mem_map.1 hb
        have hl := hs2.refs _ r hr
        exact (hls (h2 r hl)).2 hl
  · intro b o hb
    cases e : ψ b with
    | some i => rw [hιs e]; exact hs2.apart i o ((hls e).1 hb)
    | none =>
      have hb' := (hln e).1 hb
      rw [hιn e, hs2.mo _ o (hbN b hb' e)]; exact hs.apart b o hb'
  · intro k hk
    cases k with
    | s i => exact hs.free (.s i) hk
    | c b j =>
      cases e : ψ b with
      | none => rw [hcn j e] at hk; rw [hGn j e]; exact hs.free _ hk
      | some i =>
        rw [hGs j e]
        refine hs2.free _ (isUndef_eq ?_)
        rw [← hund j e, hk]; rfl
  · -- what is owned twice
    have hcase : ∀ k x, x ∈ GMerge Gs Gs2 ψ k → (∃ b i j, k = .c b j ∧ ψ b = some i ∧ x ∈ Gs2 (.c i j)) ∨ ((∀ b i j, ψ b = some i → k ≠ .c b j) ∧ x ∈ Gs k) := by
      intro k x hx
      cases k with
      | s i => exact .inr ⟨(fun b i j _ e => nomatch e), hx⟩
      | c b j =>
        cases e : ψ b with
        | some i => rw [hGs j e] at hx; exact .inl ⟨b, i, j, rfl, e, hx⟩
        | none => rw [hGn j e] at hx; exact .inr ⟨(fun b' i' j' e' e2 => by cases e2; rw [e] at e'; cases e'), hx⟩
    intro k k' x hx hx'
    rcases hcase k x hx with ⟨b, i, j, e1, e2, m1⟩ | ⟨e1, m1⟩
    · rcases hcase k' x hx' with ⟨b', i', j', e3, e4, m2⟩ | ⟨e3, m2⟩
      · have := hs2.disj _ _ x m1 m2
        cases this
        rw [e1, e3, ← h1 b i e2, ← h1 b' i e4]
      · exact absurd (hs2.mineG _ x m1) (hkN k' (fun b' i' j' e _ => e3 b' i' j' e) x m2)
    · rcases hcase k' x hx' with ⟨b', i', j', e3, e4, m2⟩ | ⟨e3, m2⟩
      · exact absurd (hs2.mineG _ x m2) (hkN k (fun b' i' j' e _ => e1 b' i' j' e) x m1)
      · exact hs.disj k k' x m1 m2
  · intro k
    cases k with
    | s i => exact hs.nodup (.s i)
    | c b j =>
      cases e : ψ b with
      | some i => rw [hGs j e]; exact hs2.nodup _
      | none => rw [hGn j e]; exact hs.nodup _
  · intro k x hx
    have hN : (∃ i j, x ∈ Gs2 (.c i j)) ∨ (¬ (⟨L, w, M, []⟩ : Bs).mine x ∧ x ∈ Gs k) := by
      cases k with
      | s i => exact .inr ⟨hsN i x hx, hx⟩
      | c b j =>
        cases e : ψ b with
        | some i => rw [hGs j e] at hx; exact .inl ⟨i, j, hx⟩
        | none => rw [hGn j e] at hx; exact .inr ⟨hcN b j e x hx, hx⟩
    rcases hN with ⟨i, j, m⟩ | ⟨hm, m⟩
    · refine ⟨(hs2.claim _ x m).1, fun b hb => ?_⟩
      cases e : ψ b with
      | some i' => rw [hιs e]; exact (hs2.claim _ x m).2 i' ((hls e).1 hb)
      | none =>
        rw [hιn e]
        exact fun e2 => hbN b ((hln e).1 hb) e (e2 ▸ hs2.mineG _ x m)
    · refine ⟨Nat.lt_of_lt_of_le (hs.claim k x m).1 hwlt, fun b hb => ?_⟩
      cases e : ψ b with
      | some i' => rw [hιs e]; exact fun e2 => hm (e2 ▸ hs2.mineB i' ((hls e).1 hb))
      | none => rw [hιn e]; exact (hs.claim k x m).2 b ((hln e).1 hb)
  · intro x hx
    obtain ⟨q1, q2, q3⟩ := hs2.spare x hx
    have hm := hs2.mineX x hx
    refine ⟨q1, fun k hk => ?_, fun b hb => ?_⟩
    · cases k with
      | s i => exact hsN i x hk hm
      | c b j =>
        cases e : ψ b with
        | some i => rw [hGs j e] at hk; exact q2 _ hk
        | none => rw [hGn j e] at hk; exact hcN b j e x hk hm
    · cases e : ψ b with
      | some i => rw [hιs e]; exact q3 i ((hls e).1 hb)
      | none => rw [hιn e]; exact fun e2 => hbN b ((hln e).1 hb) e (e2 ▸ hm)
  · intro k x hx
    cases k with
    | s i => exact hs.mineG _ x hx
    | c b j =>
      cases e : ψ b with
      | some i => rw [hGs j e] at hx; exact hmine x (hs2.mineG _ x hx)
      | none => rw [hGn j e] at hx; exact hs.mineG _ x hx
  · intro b hb
    cases e : ψ b with
    | some i => rw [hιs e]; exact hmine _ (hs2.mineB i ((hls e).1 hb))
    | none => rw [hιn e]; exact hs.mineB b ((hln e).1 hb)
/-- some boxes of a state, under other names -/
def GSub (Gs : Key → List Nat) (φ : Nat → Nat) (g' : Key → V) : Key → List Nat
  | .s _ => []
  | .c b j => if isUndef (g' (.c b 0)) = false then Gs (.c (φ b) j) else []
theorem Sim.sub (hs : Sim B X g n a w M ι Gs) {g' : Key → V} {n' : Nat} {a' : Act} {φ : Nat → Nat} {X' : List Nat} (hsz : a'.tmps.size = n') (hdf : a'.defers = []) (hlive : ∀ b, live g' b → live g (φ b))
    (hcu : ∀ b j, live g' b → isUndef (g' (.c b j)) = isUndef (g (.c (φ b) j))) (hgone : ∀ b, ¬ live g' b → ∀ j, g' (.c b j) = .undef) (hinj : ∀ b b', live g' b → live g' b' → φ b = φ b' → b = b')
    (hcr : ∀ b j v, live g' b → CR (enOf g a (fun k => w.heap[k]?) M ι) (g (.c (φ b) j)) v (Gs (.c (φ b) j)) → CR ⟨M, fun k => w.heap[k]?, fun b => ι (φ b), fun _ => none⟩ (g' (.c b j)) v (Gs (.c (φ b) j)))
    (hrefs : ∀ k, ∀ b ∈ (g' k).refs, live g' b) (hslot : ∀ i, VR ⟨M, fun k => w.heap[k]?, fun b => ι (φ b), fun _ => none⟩ (g' (.s i)) (a'.tmps.getD i Go.undef) []) (hkeys : ∀ i, keys1 (g' (.s i)) = [])
    (hout : ∀ i, n' ≤ i → g' (.s i) = .undef) (hX : ∀ x ∈ X', x < w.heap.size ∧ (∀ b j, live g' b → x ∉ Gs (.c (φ b) j)) ∧ (∀ b, live g' b → ι (φ b) ≠ x) ∧ B.mine x) :
    Sim ⟨B.L, B.w, B.M, []⟩ X' g' n' a' w M (fun b => ι (φ b)) (GSub Gs φ g') := by
  have hG : ∀ {b : Nat} (j : Nat), live g' b → GSub Gs φ g' (.c b j) = Gs (.c (φ b) j) := fun j hb => if_pos hb
  have hGm : ∀ k x, x ∈ GSub Gs φ g' k → ∃ b j, k = .c b j ∧ live g' b ∧ x ∈ Gs (.c (φ b) j) := by
    intro k x hx
    cases k with
    | s i => cases hx
    | c b j =>
      by_cases hb : isUndef (g' (.c b 0)) = false
      · rw [hG j hb] at hx; exact ⟨b, j, rfl, hb, hx⟩
      · have : GSub Gs φ g' (.c b j) = [] := if_neg hb
        rw [this] at hx; cases hx
  refine { size := hsz, defers := hdf, pin := (fun p hp => by cases hp), fr := hs.fr, mle := hs.mle, mo := hs.mo, out := hout, slot := fun i => VR_any (hkeys i) (hslot i), box := ?_, gone := hgone, inj := fun b b' hb hb' e => hinj b b' hb hb' (hs.inj _ _ (hlive b hb) (hlive b' hb') e), refs := hrefs, stable := hs.stable, apart := fun b o hb => hs.apart _ o (hlive b hb), free := ?_, disj := ?_, nodup := ?_, claim := ?_, spare := ?_, mineG := ?_, mineB := fun b hb => hs.mineB _ (hlive b hb), mineX := fun x hx => (hX x hx).2.2.2 }
  · intro b hb
    obtain ⟨cs, t, k1, k2⟩ := hs.box _ (hlive b hb)
    refine ⟨cs, t, k1, fun j => ?_⟩
    rw [hcu b j hb, hG j hb]
    exact ⟨(k2 j).1, fun v hv => ⟨((k2 j).2 v hv).1, CR_any (hcr b j v hb ((k2 j).2 v hv).2)⟩⟩
  · intro k hk
    cases k with
    | s i => rfl
    | c b j =>
      by_cases hb : isUndef (g' (.c b 0)) = false
      · rw [hG j hb]
        refine hs.free _ (isUndef_eq ?_)
        rw [← hcu b j hb, hk]; rfl
      · exact if_neg hb
  · intro k k' x hx hx'
    obtain ⟨b, j, e, hb, m⟩ := hGm k x hx
    obtain ⟨b', j', e', hb', m'⟩ := hGm k' x hx'
    have h := hs.disj _ _ x m m'
    injection h with h1 h2
    rw [e, e', hinj b b' hb hb' h1, h2]
  · intro k
    cases k with
    | s i => exact List.nodup_nil
    | c b j =>
      by_cases hb : isUndef (g' (.c b 0)) = false
      · rw [hG j hb]; exact hs.nodup _
      · have : GSub Gs φ g' (.c b j) = [] := if_neg hb
        rw [this]; exact List.nodup_nil
  · intro k x hx
    obtain ⟨b, j, e, hb, m⟩ := hGm k x hx
    exact ⟨(hs.claim _ x m).1, fun b' hb' => (hs.claim _ x m).2 _ (hlive b' hb')⟩
  · intro x hx
    obtain ⟨h1, h2, h3, h4⟩ := hX x hx
    refine ⟨h1, fun k hk => ?_, h3⟩
    obtain ⟨b, j, e, hb, m⟩ := hGm k x hk
    exact h2 b j hb m
  · intro k x hx
    obtain ⟨b, j, e, hb, m⟩ := hGm k x hx
    exact hs.mineG _ x m
/-- a state that begins here -/
theorem Sim.rebase (hs : Sim B [] g n a w M ι Gs) : ∃ L, Sim ⟨L, w, M, []⟩ [] g n a w M ι Gs ∧ ∀ x ∈ L, (∃ b, live g b ∧ ι b = x) ∨ ∃ k, x ∈ Gs k := by
  classical
  refine ⟨(List.range w.heap.size).filter (fun x => decide ((∃ b, live g b ∧ ι b = x) ∨ ∃ k, x ∈ Gs k)), ?_, fun x hx => by simpa using (List.mem_filter.1 hx).2⟩
  have hm : ∀ x, x < w.heap.size → ((∃ b, live g b ∧ ι b = x) ∨ ∃ k, x ∈ Gs k) → x ∈ (List.range w.heap.size).filter (fun x => decide ((∃ b, live g b ∧ ι b = x) ∨ ∃ k, x ∈ Gs k)) := fun x h1 h2 =>
    List.mem_filter.2 ⟨List.mem_range.2 h1, by simpa using h2⟩
  exact { hs with
    fr := Fr.refl _ _
    mle := Mle.refl _
    mo := fun _ _ _ => rfl
    mineG := fun k x hx => .inl (hm x (hs.claim k x hx).1 (.inr ⟨k, hx⟩))
    mineB := fun b hb => .inl (hm _ (hs.box_lt hb) (.inl ⟨b, hb, rfl⟩))
    mineX := fun x hx => by cases hx
    pin := fun p hp => by cases hp }
/-- other boxes are told of -/
theorem Sim.repin {L : List Nat} {w0 : World} {M0 : Mem} {ps ps' : List (Nat × Nat)} (hs : Sim ⟨L, w0, M0, ps⟩ X g n a w M ι Gs) (h : ∀ p ∈ ps', n ≤ p.1 ∧ (live g p.1 → ι p.1 = p.2)) : Sim ⟨L, w0, M0, ps'⟩ X g n a w M ι Gs :=
  { hs with pin := h, mineG := fun k x hx => hs.mineG k x hx, mineB := fun b hb => hs.mineB b hb, mineX := fun x hx => hs.mineX x hx, mo := fun x o hx => hs.mo x o hx }
end
end Go.Proofs.Ytkfphlmbdppbfaa.Vm
