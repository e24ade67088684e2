/- A whole state seen otherwise: behind a region, at a loop's head. No condition. -/
import Derived.Test.YtkfphlmbdppbfaaVmStep
namespace Go.Proofs.Ytkfphlmbdppbfaa.Vm
open Go Go.RowKit
set_option linter.unusedVariables false
set_option linter.unusedSimpArgs false

theorem VR_of_CR {E : En} {v : V} {x : Value} {G : List Nat} (h : CR E v x G) : VR E v x G := by
  cases v
  case agg => exact h.elim
  case tup => exact h.elim
  case alias => exact h.elim
  case ep => exact h.elim
  all_goals exact h
theorem CR_of_VR {E : En} {v : V} {x : Value} {G : List Nat} (hc : isCell v = true) (hk : keys1 v = []) (h : VR E v x G) : CR E v x G := by
  cases v
  case agg => cases hc
  case tup => cases hc
  case alias => cases hk
  case ep => cases hk
  all_goals exact h
theorem CR_cell {E : En} {v : V} {x : Value} {G : List Nat} (h : CR E v x G) : isCell v = true := by
  cases v
  case agg => exact h.elim
  case tup => exact h.elim
  all_goals rfl
theorem CR_keys {E : En} {v : V} {x : Value} {G : List Nat} (h : CR E v x G) : keys1 v = [] := by
  cases v
  case alias => exact h.elim
  case ep => exact h.elim
  all_goals rfl
section
variable {B : Bs} {X X' : List Nat} {g : Key → V} {n : Nat} {a : Act} {w : World} {M : Mem} {ι : Nat → Nat} {Gs : Key → List Nat}
theorem Sim.map (hs : Sim B X g n a w M ι Gs) {g' : Key → V} {Gs' : Key → List Nat} (hG : ∀ k, (Gs' k).Sublist (Gs k)) (hX : ∀ x ∈ X', x ∈ X) (hl : ∀ b, live g' b → live g b)
    (hund : ∀ b, live g' b → ∀ j, isUndef (g' (.c b j)) = isUndef (g (.c b j))) (hgone : ∀ b, ¬ live g' b → ∀ j, g' (.c b j) = .undef) (hrefs : ∀ k, ∀ b ∈ (g' k).refs, live g' b)
    (hout : ∀ i, n ≤ i → g' (.s i) = .undef) (hfree : ∀ k, g' k = .undef → Gs' k = [])
    (hV : ∀ k v, valAt a (fun k => w.heap[k]?) ι k = some v → VR (enOf g a (fun k => w.heap[k]?) M ι) (g k) v (Gs k) → VR (enOf g' a (fun k => w.heap[k]?) M ι) (g' k) v (Gs' k))
    (hcell : ∀ b j, isCell (g (.c b j)) = true → keys1 (g (.c b j)) = [] → isCell (g' (.c b j)) = true ∧ keys1 (g' (.c b j)) = []) : Sim B X' g' n a w M ι Gs' where
  size := hs.size
  defers := hs.defers
  pin := fun p hp => ⟨(hs.pin p hp).1, fun h => (hs.pin p hp).2 (hl p.1 h)⟩
  fr := hs.fr
  mle := hs.mle
  mo := hs.mo
  out := hout
  slot := fun i => hV (.s i) _ rfl (hs.slot i)
  box := fun b hb => by
    obtain ⟨cs, t, h1, h2⟩ := hs.box b (hl b hb)
    refine ⟨cs, t, h1, fun j => ⟨fun h => (h2 j).1 (by rw [← hund b hb]; exact h), fun v hv => ?_⟩⟩
    obtain ⟨h3, h4⟩ := (h2 j).2 v hv
    obtain ⟨h5, h6⟩ := hcell b j (CR_cell h4) (CR_keys h4)
    exact ⟨by rw [hund b hb]; exact h3, CR_of_VR h5 h6 (hV (.c b j) v (by simp only [valAt, h1]; exact hv) (VR_of_CR h4))⟩
  gone := hgone
  inj := fun b b' hb hb' e => hs.inj b b' (hl b hb) (hl b' hb') e
  refs := hrefs
  stable := hs.stable
  apart := fun b o hb => hs.apart b o (hl b hb)
  free := hfree
  disj := fun k k' x hx hx' => hs.disj k k' x ((hG k).subset hx) ((hG k').subset hx')
  nodup := fun k => (hG k).nodup (hs.nodup k)
  claim := fun k x hx => ⟨(hs.claim k x ((hG k).subset hx)).1, fun b hb => (hs.claim k x ((hG k).subset hx)).2 b (hl b hb)⟩
  spare := fun x hx => ⟨(hs.spare x (hX x hx)).1, fun k hk => (hs.spare x (hX x hx)).2.1 k ((hG k).subset hk), fun b hb => (hs.spare x (hX x hx)).2.2 b (hl b hb)⟩
  mineG := fun k x hx => hs.mineG k x ((hG k).subset hx)
  mineB := fun b hb => hs.mineB b (hl b hb)
  mineX := fun x hx => hs.mineX x (hX x hx)

/-! behind a region -/
theorem nth_map (f : V → V) (hf : f .undef = .undef) : ∀ (l : List V) (i : Nat), nth (l.map f) i = f (nth l i)
  | [], _ => by simp [nth, hf]
  | _ :: _, 0 => rfl
  | _ :: l, i + 1 => nth_map f hf l i
theorem nthB_map (f : Box → Box) (hf : f [] = []) : ∀ (l : List Box) (i : Nat), nthB (l.map f) i = f (nthB l i)
  | [], _ => by simp [nthB, hf]
  | _ :: _, 0 => rfl
  | _ :: l, i + 1 => nthB_map f hf l i
theorem get_calm (σ : St) (k : Key) : σ.calm.get k = σ.calmV (σ.get k) := by
  cases k with
  | s i => exact Tr.get_map (fun _ => σ.calmV) _ _ (fun _ => rfl)
  | c b j => show nth (Tr.get [] (σ.boxes.map fun _ cs => cs.map σ.calmV) b) j = _; rw [Tr.get_map (d := []) (d' := []) (fun _ (cs : Box) => cs.map σ.calmV) _ _ (fun _ => rfl)]; exact nth_map σ.calmV rfl _ _
theorem calm1_undef (v : V) : isUndef (calm1 v) = isUndef v := by
  cases v <;> try rfl
  rename_i t xs o; cases o <;> rfl
theorem calmV_undef (σ : St) (v : V) : isUndef (σ.calmV v) = isUndef v := by
  cases v
  case alias k => show isUndef (if isOld (σ.get k) then _ else _) = _; split <;> rfl
  case ep k t i off => show isUndef (if isOld (σ.get k) then _ else _) = _; split <;> rfl
  case list t xs o => exact calm1_undef (.list t xs o)
  all_goals rfl
theorem isUndef_eq {v : V} (h : isUndef v = true) : v = .undef := by revert h; cases v <;> simp [isUndef]
theorem LR_calm {E : En} {v : V} {x : Value} {G : List Nat} (h : LR E v x G) : LR E (calm1 v) x G := by
  cases v <;> try exact h
  rename_i t xs o; cases o <;> exact h
theorem CR_calm {E : En} {v : V} {x : Value} {G : List Nat} (h : CR E v x G) : CR E (calm1 v) x G := by
  cases v <;> try exact h
  rename_i t xs o; cases o <;> exact h
theorem LsR_map {R R' : V → Value → List Nat → Prop} (f : V → V) (hf : ∀ v x G, R v x G → R' (f v) x G) : ∀ {vs : List V} {xs : List Value} {G : List Nat}, LsR R vs xs G → LsR R' (vs.map f) xs G
  | [], [], _, h => h
  | v :: vs, x :: xs, G, ⟨G1, G2, e, h1, h2⟩ => ⟨G1, G2, e, hf v x G1 h1, LsR_map f hf h2⟩
  | [], _ :: _, _, h => h.elim
  | _ :: _, [], _, h => h.elim
theorem AR_calm {E : En} {v : V} {x : Value} {G : List Nat} (h : AR E v x G) : AR E (calm1 v) x G := by
  cases v <;> try exact h
  rename_i t xs o; cases o <;> exact h
theorem TR_calm {E : En} {v : V} {x : Value} {G : List Nat} (h : TR E v x G) : TR E (calm1 v) x G := by
  cases v <;> try exact h
  rename_i t xs o; cases o <;> exact h
theorem refs1_calm (v : V) : refs1 (calm1 v) = refs1 v := by
  cases v <;> try rfl
  rename_i t xs o; cases o <;> rfl
theorem refs2_calm (v : V) : refs2 (calm1 v) = refs2 v := by
  cases v <;> try rfl
  rename_i t xs o; cases o <;> rfl
theorem refs3_calm (v : V) : refs3 (calm1 v) = refs3 v := by
  cases v <;> try rfl
  rename_i t xs o; cases o <;> rfl
theorem refs_calm1 (v : V) : (calm1 v).refs = v.refs := by
  cases v <;> try rfl
  rename_i t xs o; cases o <;> rfl
theorem flatMap_map_eq (f : V → V) (h : V → List Nat) (hf : ∀ v, h (f v) = h v) : ∀ l : List V, (l.map f).flatMap h = l.flatMap h
  | [] => rfl
  | v :: l => by rw [List.map_cons, List.flatMap_cons, List.flatMap_cons, hf, flatMap_map_eq f h hf l]
theorem refs_calm (σ : St) (v : V) : (σ.calmV v).refs = v.refs := by
  cases v
  case alias k => show V.refs (if isOld (σ.get k) then _ else _) = _; split <;> rfl
  case ep k t i off => show V.refs (if isOld (σ.get k) then _ else _) = _; split <;> rfl
  case tup cs => exact flatMap_map_eq calm1 refs3 refs3_calm cs
  case agg cs => exact flatMap_map_eq calm1 refs2 refs2_calm cs
  case list t xs o => exact refs_calm1 (.list t xs o)
  all_goals rfl
theorem Sim.calm {σ : St} (hs : Sim B X σ.get σ.n a w M ι Gs) : Sim B X σ.calm.get σ.calm.n a w M ι Gs := by
  have hl : ∀ b, live σ.calm.get b ↔ live σ.get b := fun b => by unfold live; rw [get_calm, calmV_undef]
  refine hs.map (fun k => List.Sublist.refl _) (fun x hx => hx) (fun b => (hl b).1) (fun b _ j => by rw [get_calm, calmV_undef]) (fun b hb j => ?_) (fun k b hb => ?_) (fun i hi => ?_) (fun k hk => ?_) (fun k v hv h => ?_) (fun b j h1 h2 => ?_)
  · exact isUndef_eq (by rw [get_calm, calmV_undef, hs.gone b (fun h => hb ((hl b).2 h)) j]; rfl)
  · rw [get_calm, refs_calm] at hb; exact (hl b).2 (hs.refs k b hb)
  · rw [get_calm, hs.out i hi]; rfl
  · refine hs.free k (isUndef_eq ?_)
    rw [get_calm] at hk; rw [← calmV_undef σ, hk]; rfl
  · rw [get_calm]
    have hle : ∀ r G, En.le (enOf σ.get a (fun k => w.heap[k]?) M ι) (enOf σ.calm.get a (fun k => w.heap[k]?) M ι) r G := fun r G => ⟨Mle.refl _, fun _ _ => ⟨rfl, fun _ => rfl⟩, fun _ _ => rfl⟩
    have hold : ∀ k, isOld (σ.get k) = true → ∀ v', (enOf σ.calm.get a (fun k => w.heap[k]?) M ι).old k = some v' → (enOf σ.get a (fun k => w.heap[k]?) M ι).old k = some v' := by
      intro k hk v' h
      simp only [enOf, oldAt] at h ⊢
      rw [if_pos hk]
      split at h
      · exact h
      · cases h
    generalize σ.get k = u at h
    cases u
    case alias q =>
      show VR _ (if isOld (σ.get q) then _ else _) _ _
      split
      · rename_i hq; exact ⟨fun v' hv => h.1 v' (hold q hq v' hv), h.2⟩
      · exact h.2
    case ep q t i off =>
      show VR _ (if isOld (σ.get q) then _ else _) _ _
      split
      · rename_i hq; exact ⟨fun v' hv => h.1 v' (hold q hq v' hv), h.2⟩
      · exact h.2
    case tup cs =>
      obtain ⟨vals, h1, h2⟩ := h
      exact ⟨vals, h1, LsR_map calm1 (fun v x G h => TR_calm (TR_mono (hle _ _) h)) h2⟩
    case agg cs =>
      obtain ⟨vals, h1, h2⟩ := h
      exact ⟨vals, h1, LsR_map calm1 (fun v x G h => CR_calm (CR_mono (hle _ _) h)) h2⟩
    case list t xs o =>
      have h' := VR_mono (hle _ _) (fun q hq => by cases hq) h
      cases o <;> exact h'
    all_goals exact VR_mono (hle _ _) (fun q hq => by cases hq) h
  · rw [get_calm]
    revert h1 h2
    generalize σ.get (.c b j) = u
    cases u
    case list t xs o => cases o <;> exact fun _ _ => ⟨rfl, rfl⟩
    case alias => exact fun _ h => nomatch h
    case ep => exact fun _ h => nomatch h
    case agg => exact fun h _ => nomatch h
    case tup => exact fun h _ => nomatch h
    all_goals exact fun _ _ => ⟨rfl, rfl⟩

/-! what is forgotten -/
theorem scV_undef (bad : List Nat) : scV bad .undef = .undef := rfl
theorem scV_isUndef (bad : List Nat) (v : V) : isUndef (scV bad v) = isUndef v := by
  unfold scV
  split
  · rename_i h
    cases v <;> first | rfl | (exact absurd h (by simp [V.refs, refs3, refs2, refs1]))
  · rfl
def keyNo : Key → Nat
  | .s i => i
  | .c b _ => b
theorem get_scrub (σ : St) (bad : List Nat) (k : Key) : (σ.scrub bad).get k = if Vm.mem bad (keyNo k) = true then .undef else scV bad (σ.get k) := by
  cases k with
  | s i => exact Tr.get_map (fun i v => if Vm.mem bad i = true then .undef else scV bad v) _ _ (fun i => by rw [scV_undef]; split <;> rfl)
  | c b j =>
    show nth (Tr.get [] (σ.boxes.map fun i cs => if Vm.mem bad i = true then [] else cs.map (scV bad)) b) j = if Vm.mem bad b = true then _ else _
    rw [Tr.get_map (d := []) (d' := []) (fun i (cs : Box) => if Vm.mem bad i = true then [] else cs.map (scV bad)) _ _ (fun i => by split <;> rfl)]
    split
    · rfl
    · exact nth_map (scV bad) rfl _ _
theorem Sim.scrub {σ : St} (hs : Sim B X σ.get σ.n a w M ι Gs) (bad : List Nat) : ∃ Gs', Sim B X (σ.scrub bad).get (σ.scrub bad).n a w M ι Gs' := by
  have hl : ∀ b, live (σ.scrub bad).get b ↔ (Vm.mem bad b = false ∧ live σ.get b) := fun b => by
    unfold live; rw [get_scrub]
    show isUndef (if Vm.mem bad b = true then _ else _) = false ↔ _
    cases hb : Vm.mem bad b
    · rw [if_neg (by simp), scV_isUndef]; simp
    · rw [if_pos rfl]; simp [isUndef]
  refine ⟨fun k => if Vm.mem bad (keyNo k) = true ∨ ((σ.get k).refs).any (Vm.mem bad) = true then [] else Gs k, hs.map (fun k => ?_) (fun x hx => hx) (fun b hb => ((hl b).1 hb).2) (fun b hb j => ?_) (fun b hb j => ?_) (fun k b hb => ?_) (fun i hi => ?_) (fun k hk => ?_) (fun k v hv h => ?_) (fun b j h1 h2 => ?_)⟩
  · split
    · exact List.nil_sublist _
    · exact List.Sublist.refl _
  · rw [get_scrub]; show isUndef (if Vm.mem bad b = true then _ else _) = _; rw [((hl b).1 hb).1, if_neg (by simp), scV_isUndef]
  · rw [get_scrub]
    split
    · rfl
    · rename_i h
      have : ¬ live σ.get b := fun h' => hb ((hl b).2 ⟨by simpa [keyNo] using h, h'⟩)
      rw [hs.gone b this j]; rfl
  · rw [get_scrub] at hb
    split at hb
    · cases hb
    · unfold scV at hb
      split at hb
      · cases hb
      · rename_i h
        refine (hl b).2 ⟨?_, hs.refs k b hb⟩
        simp only [List.any_eq_true, not_exists, not_and] at h
        simpa using h b hb
  · rw [get_scrub, hs.out i hi]; split <;> rfl
  · split
    · rfl
    · rename_i h
      rw [get_scrub, if_neg (fun e => h (.inl e))] at hk
      exact hs.free k (isUndef_eq (by rw [← scV_isUndef bad, hk]; rfl))
  · rw [get_scrub]
    by_cases h1 : Vm.mem bad (keyNo k) = true
    · rw [if_pos h1, if_pos (.inl h1)]; rfl
    · rw [if_neg h1]
      unfold scV
      by_cases h2 : ((σ.get k).refs).any (Vm.mem bad) = true
      · rw [if_pos h2, if_pos (.inr h2)]; rfl
      · rw [if_neg h2, if_neg (fun h => h.elim h1 h2)]
        have hle : En.le (enOf σ.get a (fun k => w.heap[k]?) M ι) (enOf (σ.scrub bad).get a (fun k => w.heap[k]?) M ι) (σ.get k).refs (Gs k) := ⟨Mle.refl _, fun _ _ => ⟨rfl, fun _ => rfl⟩, fun _ _ => rfl⟩
        refine VR_mono hle (fun q _ v' hq => ?_) h
        simp only [enOf, oldAt] at hq ⊢
        have h4 : isOld ((σ.scrub bad).get q) = true := Classical.byContradiction fun h5 => by rw [if_neg h5] at hq; cases hq
        rw [if_pos h4] at hq
        rw [get_scrub] at h4
        split at h4
        · cases h4
        · unfold scV at h4
          split at h4
          · cases h4
          · rw [if_pos h4]; exact hq
  · rw [get_scrub]
    split
    · exact ⟨rfl, rfl⟩
    · unfold scV
      split
      · exact ⟨rfl, rfl⟩
      · exact ⟨h1, h2⟩
end
end Go.Proofs.Ytkfphlmbdppbfaa.Vm
