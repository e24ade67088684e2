/- What a loop's head and a call's end make of a state. No condition. -/
import Derived.Test.YtkfphlmbdppbfaaVmRegion2
import Derived.LoopN
import Derived.Scope
namespace Go.Proofs.Ytkfphlmbdppbfaa.Vm
open Go Go.RowKit
set_option linter.unusedVariables false
set_option linter.unusedSimpArgs false
/-- cells of which one may see less -/
structure LeafOk (f : V → V) : Prop where
  undef : ∀ v, isUndef (f v) = isUndef v
  refs2 : ∀ v, refs2 (f v) = Vm.refs2 v
  cell : ∀ {M : Mem} {h : Nat → Option Obj} {ι : Nat → Nat} {old : Key → Option Value} {v : V} {x : Value} {G : List Nat}, CR ⟨M, h, ι, old⟩ v x G → ∃ M' Gn, Ext M M' h G ∧ Gn.Sublist G ∧ CR ⟨M', h, ι, old⟩ (f v) x Gn
theorem LeafOk.comp {f f' : V → V} (h : LeafOk f) (h' : LeafOk f') : LeafOk (fun v => f' (f v)) where
  undef := fun v => by rw [h'.undef, h.undef]
  refs2 := fun v => by rw [h'.refs2, h.refs2]
  cell := fun {M hh ι old v x G} k => by
    obtain ⟨M1, G1, e1, s1, k1⟩ := h.cell k
    obtain ⟨M2, G2, e2, s2, k2⟩ := h'.cell k1
    refine ⟨M2, G2, ⟨e1.le.trans e2.le, fun b o hb => ?_, fun b o v hv => (e2.cell b o v hv).elim (e1.cell b o v) .inr⟩, s2.trans s1, k2⟩
    by_cases e : M1 b o = M b o
    · exact s1.subset (e2.only b o (by rw [e]; exact hb))
    · exact e1.only b o e
theorem leaf_no : LeafOk noL where
  undef := fun v => by cases v <;> rfl
  refs2 := refs2_no
  cell := fun {M hh ι old v x G} k => by
    cases v
    case list t xs o =>
      cases o
      case own s f =>
        obtain ⟨M', e, h'⟩ := ownR_seal (show ownR M hh t xs s x G from k)
        exact ⟨M', [], e, List.nil_sublist _, ⟨ownR_lst h', rfl⟩⟩
      case no => exact ⟨M, [], Ext.refl _ _ _, List.nil_sublist _, ⟨k.1, rfl⟩⟩
      case nil => obtain ⟨⟨h1, h2⟩, _⟩ := k; subst h1; exact ⟨M, [], Ext.refl _ _ _, List.nil_sublist _, ⟨by rw [h2]; exact lstR_nil _ _ _, rfl⟩⟩
    all_goals exact ⟨M, _, Ext.refl _ _ _, List.Sublist.refl _, k⟩
theorem leaf_weak : LeafOk V.weak where
  undef := undef_weak
  refs2 := fun v => by
    cases v <;> try rfl
    rename_i t xs o; cases o <;> rfl
  cell := fun {M hh ι old v x G} k => ⟨M, G, Ext.refl _ _ _, List.Sublist.refl _, CR_weak k⟩
theorem leaf_shut : LeafOk V.shut where
  undef := fun v => by
    cases v <;> try rfl
    rename_i t xs o; cases o <;> rfl
  refs2 := fun v => by
    cases v <;> try rfl
    rename_i t xs o; cases o <;> rfl
  cell := fun {M hh ι old v x G} k => by
    cases v
    case list t xs o =>
      cases o
      case own s f =>
        obtain ⟨M', e, h'⟩ := ownR_seal (show ownR M hh t xs s x G from k)
        exact ⟨M', G, e, List.Sublist.refl _, h'⟩
      all_goals exact ⟨M, _, Ext.refl _ _ _, List.Sublist.refl _, k⟩
    all_goals exact ⟨M, _, Ext.refl _ _ _, List.Sublist.refl _, k⟩
theorem leaf_id : LeafOk (fun v => v) where
  undef := fun _ => rfl
  refs2 := fun _ => rfl
  cell := fun k => ⟨_, _, Ext.refl _ _ _, List.Sublist.refl _, k⟩
theorem leaf_res (own : Nat) : LeafOk (V.res1 own) where
  undef := fun v => by
    cases v <;> try rfl
    rename_i t xs o
    cases o <;> try rfl
    all_goals (match own with | 0 => rfl | 1 => rfl | n + 2 => rfl)
  refs2 := fun v => by
    cases v <;> try rfl
    rename_i t xs o
    cases o <;> try rfl
    all_goals (match own with | 0 => rfl | 1 => rfl | n + 2 => rfl)
  cell := fun {M hh ι old v x G} k => by
    cases v
    case list t xs o =>
      cases o
      case no => exact ⟨M, G, Ext.refl _ _ _, List.Sublist.refl _, k⟩
      case nil =>
        obtain ⟨⟨h1, h2⟩, h3⟩ := k
        match own with
        | 0 => subst h1; exact ⟨M, [], Ext.refl _ _ _, List.nil_sublist _, ⟨by rw [h2]; exact lstR_nil _ _ _, rfl⟩⟩
        | 1 => exact ⟨M, G, Ext.refl _ _ _, List.Sublist.refl _, .inl ⟨h3, h1, h2⟩⟩
        | n + 2 => exact ⟨M, G, Ext.refl _ _ _, List.Sublist.refl _, .inl ⟨h3, h1, h2⟩⟩
      case own s f =>
        match own with
        | 0 =>
          obtain ⟨M', e, h'⟩ := ownR_seal (show ownR M hh t xs s x G from k)
          exact ⟨M', [], e, List.nil_sublist _, ⟨ownR_lst h', rfl⟩⟩
        | 1 =>
          obtain ⟨M', e, h'⟩ := ownR_seal (show ownR M hh t xs s x G from k)
          exact ⟨M', G, e, List.Sublist.refl _, h'⟩
        | n + 2 => exact ⟨M, G, Ext.refl _ _ _, List.Sublist.refl _, k⟩
    all_goals exact ⟨M, _, Ext.refl _ _ _, List.Sublist.refl _, k⟩
theorem LsR_each {h : Nat → Option Obj} {ι : Nat → Nat} {old : Key → Option Value} {R : En → V → Value → List Nat → Prop} {f : V → V}
    (hR : ∀ {M : Mem} {v : V} {x : Value} {G : List Nat}, R ⟨M, h, ι, old⟩ v x G → ∃ M' Gn, Ext M M' h G ∧ Gn.Sublist G ∧ R ⟨M', h, ι, old⟩ (f v) x Gn)
    (hm : ∀ {M M' : Mem} {v : V} {x : Value} {G : List Nat}, Mle M M' → (∀ g ∈ G, ∀ o, M' g o = M g o) → R ⟨M, h, ι, old⟩ v x G → R ⟨M', h, ι, old⟩ v x G) :
    ∀ {vs : List V} {xs : List Value} {G : List Nat} {M : Mem}, G.Nodup → LsR (R ⟨M, h, ι, old⟩) vs xs G → ∃ M' Gn, Ext M M' h G ∧ Gn.Sublist G ∧ LsR (R ⟨M', h, ι, old⟩) (vs.map f) xs Gn
  | [], [], _, M, _, h => ⟨M, _, Ext.refl _ _ _, List.Sublist.refl _, h⟩
  | v :: vs, x :: xs, G, M, hn, ⟨G1, G2, e, h1, h2⟩ => by
    rw [e] at hn
    obtain ⟨n1, n2, n3⟩ := List.nodup_append.1 hn
    obtain ⟨M1, Ga, e1, s1, h1'⟩ := hR h1
    have h2' : LsR (R ⟨M1, h, ι, old⟩) vs xs G2 := LsR_mono (fun v hv x G' hG' k => hm e1.le (fun g hg o => e1.same (fun hg' => n3 g hg' g (hG' g hg) rfl) o) k) h2
    obtain ⟨M2, Gb, e2, s2, h2''⟩ := LsR_each hR hm n2 h2'
    refine ⟨M2, Ga ++ Gb, by rw [e]; exact e1.trans e2, by rw [e]; exact s1.append s2, Ga, Gb, rfl, hm e2.le (fun g hg o => e2.same (fun hg' => n3 g (s1.subset hg) g hg' rfl) o) h1', h2''⟩
  | [], _ :: _, _, _, _, h => h.elim
  | _ :: _, [], _, _, _, h => h.elim
/-- values of which one may see less: a leaf, or each cell of a whole -/
def onV (f : V → V) : V → V
  | .agg cs => .agg (cs.map f)
  | .tup cs => .tup cs
  | .alias k => .alias k
  | .ep k t i off => .ep k t i off
  | v => f v
theorem onV_undef {f : V → V} (hf : LeafOk f) (v : V) : isUndef (onV f v) = isUndef v := by
  cases v <;> first | rfl | exact hf.undef _
theorem isCell_onV {f : V → V} (hf : LeafOk f) {E : En} {v : V} {x : Value} {G : List Nat} (h : CR E v x G) : isCell (onV f v) = true ∧ keys1 (onV f v) = [] := by
  have hc := CR_cell h
  have hk := CR_keys h
  obtain ⟨M', Gn, _, _, h'⟩ := hf.cell (M := E.M) (h := E.h) (ι := E.ι) (old := E.old) h
  cases v
  case agg => cases hc
  case tup => cases hc
  case alias => cases hk
  case ep => cases hk
  all_goals exact ⟨CR_cell h', CR_keys h'⟩
theorem onV_refs {f : V → V} (hf : LeafOk f) {E : En} {v : V} {x : Value} {G : List Nat} (h : VR E v x G) : ∀ b ∈ (onV f v).refs, b ∈ v.refs := by
  have hleaf : ∀ {v : V}, CR E v x G → ∀ b ∈ (f v).refs, b ∈ v.refs := fun {v} h b hb => by
    obtain ⟨M', Gn, _, _, h'⟩ := hf.cell (M := E.M) (h := E.h) (ι := E.ι) (old := E.old) h
    rw [CR_refs h', hf.refs2] at hb
    rw [CR_refs h]; exact hb
  cases v
  case agg cs => intro b hb; rwa [show V.refs (onV f (.agg cs)) = V.refs (.agg cs) from flatMap_map_eq f Vm.refs2 hf.refs2 cs] at hb
  case tup cs => exact fun b hb => hb
  case alias k => exact fun b hb => hb
  case ep k t i off => exact fun b hb => hb
  all_goals exact hleaf h
theorem onV_val {f : V → V} (hf : LeafOk f) {M : Mem} {h : Nat → Option Obj} {ι : Nat → Nat} {v : V} {x : Value} {G : List Nat} (hn : G.Nodup) (hk : keys1 v = []) (k : VR ⟨M, h, ι, fun _ => none⟩ v x G) :
    ∃ M' Gn, Ext M M' h G ∧ Gn.Sublist G ∧ VR ⟨M', h, ι, fun _ => none⟩ (onV f v) x Gn ∧ keys1 (onV f v) = [] := by
  have hleaf : ∀ {v : V}, CR ⟨M, h, ι, fun _ => none⟩ v x G → ∃ M' Gn, Ext M M' h G ∧ Gn.Sublist G ∧ VR ⟨M', h, ι, fun _ => none⟩ (f v) x Gn ∧ keys1 (f v) = [] := fun {v} k => by
    obtain ⟨M', Gn, e, s, k'⟩ := hf.cell k
    exact ⟨M', Gn, e, s, VR_of_CR k', CR_keys k'⟩
  cases v
  case agg cs =>
    obtain ⟨vals, e1, hc⟩ := k
    obtain ⟨M', Gn, e, s, k'⟩ := LsR_each (R := CR) (f := f) (fun k => hf.cell k) (fun a b k => CR_wide a b k) hn hc
    exact ⟨M', Gn, e, s, ⟨vals, e1, k'⟩, rfl⟩
  case tup cs => exact ⟨M, G, Ext.refl _ _ _, List.Sublist.refl _, k, rfl⟩
  case alias => cases hk
  case ep => cases hk
  all_goals exact hleaf k
section
variable {B : Bs} {X : List Nat} {n : Nat} {a : Act} {w : World} {ι : Nat → Nat}
/-- some places are seen otherwise, one by one -/
theorem Sim.each {f : Key → V → V} (hf : ∀ k, LeafOk (f k)) {g0 : Key → V} (hcalm : ∀ k k', k ∈ keys1 (g0 k') → isOld (g0 k) = true) : ∀ (ks : List Key) {g : Key → V} {M : Mem} {Gs : Key → List Nat}, Sim B X g n a w M ι Gs → ks.Nodup → (∀ k ∈ ks, g k = g0 k) →
    (∀ k' q, q ∈ keys1 (g k') → q ∈ keys1 (g0 k')) → ∃ M' Gs', Sim B X (gputs g (ks.map fun k => (k, onV (f k) (g0 k)))) n a w M' ι Gs' ∧ Mle M M' ∧ ∀ x, x ∈ X → ∀ o, M' x o = M x o
  | [], g, M, Gs, hs, _, _, _ => ⟨M, Gs, hs, Mle.refl _, fun _ _ _ => rfl⟩
  | k :: ks, g, M, Gs, hs, hn, hg, hk => by
    obtain ⟨hn1, hn2⟩ := List.nodup_cons.1 hn
    have hgk := hg k (by simp)
    have hstep : ∃ M1 Gs1, Sim B X (gput g k (onV (f k) (g0 k))) n a w M1 ι Gs1 ∧ Mle M M1 ∧ ∀ x, x ∈ X → ∀ o, M1 x o = M x o := by
      by_cases hsame : onV (f k) (g0 k) = g0 k
      · rw [hsame, ← hgk, gput_same rfl]; exact ⟨M, Gs, hs, Mle.refl _, fun _ _ _ => rfl⟩
      · by_cases hu : isUndef (g0 k) = true
        · have e1 : g0 k = .undef := isUndef_eq hu
          have e2 : onV (f k) (g0 k) = .undef := isUndef_eq (by rw [onV_undef (hf k), hu])
          exact absurd (e2.trans e1.symm) hsame
        · have hu : isUndef (g0 k) = false := by simpa using hu
          have hk0 : keys1 (g0 k) = [] := by
            cases hq : g0 k <;> first | rfl | (rw [hq] at hsame; exact absurd rfl hsame)
          obtain ⟨x, hx, hv, hcl⟩ := hs.at (k := k) (by rw [hgk]; exact hu)
          rw [hgk] at hv hcl
          obtain ⟨M', Gn, hext, hsub, hv', hkn⟩ := onV_val (hf k) (hs.nodup k) hk0 (VR_any (old' := fun _ => none) hk0 hv)
          refine ⟨M', upd Gs k Gn, ?_, hext.le, fun y hy o => hext.same (fun h => (hs.spare y hy).2.1 k h) o⟩
          refine hs.relabel' (X' := X) hext.le (fun b o e => .inl (hext.only b o e)) (fun b o v hv => (hext.cell b o v hv).elim (hs.stable b o v) hcell_cell) (fun v hv2 => ?_) hkn (fun hc => ?_) (fun ho => ?_) (by rw [onV_undef (hf k), hgk]) (fun b hb => ?_) (fun y hy => .inl (hsub.subset hy)) (hsub.nodup (hs.nodup k)) (fun y hy => ⟨.inl hy, fun h => (hs.spare y hy).2.1 k (hsub.subset h)⟩) (fun h => ?_)
          · rw [hx] at hv2; cases hv2; exact hv'
          · obtain ⟨c1, c2⟩ := hcl hc
            exact (isCell_onV (hf k) (CR_of_VR c1 c2 hv)).1
          · by_cases h1 : isOld (g0 k) = true
            · exact .inl (by rw [hgk]; exact h1)
            · exact .inr (fun k' hk' => h1 (hcalm k k' (hk k' k hk')))
          · exact hs.refs k b (by rw [hgk]; exact onV_refs (hf k) hv b hb)
          · rw [onV_undef (hf k), hu] at h; cases h
    obtain ⟨M1, Gs1, hs1, hle1, hM1⟩ := hstep
    obtain ⟨M2, Gs2, hs2, hle2, hM2⟩ := Sim.each hf hcalm ks hs1 hn2 (fun k' hk' => by
      have hne : k ≠ k' := fun e => hn1 (e ▸ hk')
      rw [gput_ne _ hne]; exact hg k' (List.mem_cons_of_mem _ hk')) (fun k' q hq => by
      by_cases e : k = k'
      · subst e
        rw [gput_self] at hq
        by_cases hk0 : keys1 (g0 k) = []
        · exfalso
          have hu : isUndef (g0 k) = true ∨ isUndef (g0 k) = false := by cases isUndef (g0 k) <;> simp
          rcases hu with hu | hu
          · rw [isUndef_eq (show isUndef (onV (f k) (g0 k)) = true by rw [onV_undef (hf k), hu])] at hq; cases hq
          · obtain ⟨x, hx, hv, hcl⟩ := hs.at (k := k) (by rw [hgk]; exact hu)
            rw [hgk] at hv
            obtain ⟨_, _, _, _, _, hkn⟩ := onV_val (hf k) (hs.nodup k) hk0 (VR_any (old' := fun _ => none) hk0 hv)
            rw [hkn] at hq; cases hq
        · have : onV (f k) (g0 k) = g0 k := by
            cases hq2 : g0 k <;> first | rfl | (rw [hq2] at hk0; exact absurd rfl hk0)
          rw [this] at hq; exact hq
      · rw [gput_ne _ e] at hq; exact hk k' q hq)
    exact ⟨M2, Gs2, hs2, hle1.trans hle2, fun x hx o => (hM2 x hx o).trans (hM1 x hx o)⟩
/-- the places of a state -/
def St.keys (σ : St) : List Key := (List.range σ.slots.cap).map .s ++ (List.range σ.boxes.cap).flatMap fun b => (List.range (Tr.get [] σ.boxes b).length).map (.c b)
theorem nodup_flat {F : Nat → List Key} (hF : ∀ b, (F b).Nodup) (hd : ∀ b b' k, k ∈ F b → k ∈ F b' → b = b') : ∀ {l : List Nat}, l.Nodup → (l.flatMap F).Nodup
  | [], _ => List.nodup_nil
  | b :: l, hn => by
    obtain ⟨h1, h2⟩ := List.nodup_cons.1 hn
    rw [List.flatMap_cons]
    refine List.nodup_append.2 ⟨hF b, nodup_flat hF hd h2, fun k hk k' hk' e => ?_⟩
    subst e
    obtain ⟨b', hb', hk'⟩ := List.mem_flatMap.1 hk'
    exact h1 (hd b b' k hk hk' ▸ hb')
theorem St.keys_nodup (σ : St) : σ.keys.Nodup := by
  unfold St.keys
  refine List.nodup_append.2 ⟨List.Pairwise.map _ (fun x y h e => ?_) List.nodup_range, nodup_flat (fun b => List.Pairwise.map _ (fun x y h e => ?_) List.nodup_range) (fun b b' k hk hk' => ?_) List.nodup_range, ?_⟩
  · cases e; exact h rfl
  · cases e; exact h rfl
  · obtain ⟨j, _, e⟩ := List.mem_map.1 hk
    obtain ⟨j', _, e'⟩ := List.mem_map.1 hk'
    rw [← e] at e'; cases e'; rfl
  · intro k hk k' hk' e
    obtain ⟨i, _, e1⟩ := List.mem_map.1 hk
    obtain ⟨b, _, hk2⟩ := List.mem_flatMap.1 hk'
    obtain ⟨j, _, e2⟩ := List.mem_map.1 hk2
    rw [← e1, ← e2] at e; cases e
theorem St.keys_out (σ : St) {k : Key} (h : k ∉ σ.keys) : σ.get k = .undef := by
  unfold St.keys at h
  rw [List.mem_append] at h
  cases k with
  | s i =>
    have : σ.slots.cap ≤ i := Nat.le_of_not_lt fun hlt => h (.inl (List.mem_map.2 ⟨i, List.mem_range.2 hlt, rfl⟩))
    exact Tr.get_out _ _ _ this
  | c b j =>
    show nth (Tr.get [] σ.boxes b) j = .undef
    rcases Nat.lt_or_ge b σ.boxes.cap with hb | hb
    · have : (Tr.get [] σ.boxes b).length ≤ j := Nat.le_of_not_lt fun hlt => h (.inr (List.mem_flatMap.2 ⟨b, List.mem_range.2 hb, List.mem_map.2 ⟨j, List.mem_range.2 hlt, rfl⟩⟩))
      exact nth_out _ _ this
    · rw [Tr.get_out _ _ _ hb]; rfl
open Classical in
theorem gputs_fun (F : Key → V) : ∀ (ks : List Key) (g : Key → V) (k : Key), gputs g (ks.map fun k => (k, F k)) k = if k ∈ ks then F k else g k
  | [], g, k => by simp [gputs]
  | k0 :: ks, g, k => by
    show gputs (gput g k0 (F k0)) (ks.map fun k => (k, F k)) k = _
    rw [gputs_fun F ks]
    by_cases h : k ∈ ks
    · rw [if_pos h, if_pos (List.mem_cons_of_mem _ h)]
    · rw [if_neg h]
      by_cases e : k0 = k
      · subst e; rw [gput_self, if_pos (by simp)]
      · rw [gput_ne _ e, if_neg (fun hm => (List.mem_cons.1 hm).elim (fun h => e h.symm) h)]
/-- a whole state, each place seen otherwise -/
theorem Sim.all {σ : St} {M : Mem} {Gs : Key → List Nat} (hs : Sim B X σ.get n a w M ι Gs) {f : Key → V → V} (hf : ∀ k, LeafOk (f k)) (hcalm : ∀ k k', k ∈ keys1 (σ.get k') → isOld (σ.get k) = true) {g' : Key → V} (hg : ∀ k, g' k = onV (f k) (σ.get k)) :
    ∃ M' Gs', Sim B X g' n a w M' ι Gs' ∧ Mle M M' ∧ ∀ x, x ∈ X → ∀ o, M' x o = M x o := by
  obtain ⟨M', Gs', h, hle, hM⟩ := Sim.each hf hcalm σ.keys hs σ.keys_nodup (fun _ _ => rfl) (fun _ _ h => h)
  refine ⟨M', Gs', ?_, hle, hM⟩
  have : g' = gputs σ.get (σ.keys.map fun k => (k, onV (f k) (σ.get k))) := by
    funext k
    rw [gputs_fun (fun k => onV (f k) (σ.get k)), hg]
    split
    · rfl
    · rename_i hk
      rw [σ.keys_out hk]
      exact isUndef_eq (by rw [onV_undef (hf k)]; rfl)
  rw [this]; exact h
/-! the head of a loop -/
def headF (sl dr : List Nat) (i : Nat) (v : V) : V := if Vm.mem dr i = true then noL v else if Vm.mem sl i = true then (v.weak).shut else v.weak
theorem headF_ok (sl dr : List Nat) (i : Nat) : LeafOk (headF sl dr i) := by
  unfold headF
  split
  · exact leaf_no
  · split
    · exact leaf_weak.comp leaf_shut
    · exact leaf_weak
theorem headV_on (sl dr : List Nat) (i : Nat) (v : V) : headV sl dr i v = onV (headF sl dr i) v := by
  unfold headV headF
  split
  · cases v <;> rfl
  · split
    · cases v
      case agg cs => simp [V.weak2, V.shut2, onV, List.map_map, Function.comp_def]
      case list t xs o => cases o <;> rfl
      all_goals rfl
    · cases v <;> rfl
theorem get_weaken (σ : St) (sl dr : List Nat) (k : Key) : (σ.weaken sl dr).get k = onV (headF sl dr (keyNo k)) (σ.get k) := by
  rw [← headV_on]
  cases k with
  | s i => exact Tr.get_map (headV sl dr) _ _ (fun i => by rw [headV_on]; exact isUndef_eq (by rw [onV_undef (headF_ok sl dr i)]; rfl))
  | c b j =>
    show nth (Tr.get [] (σ.boxes.map fun i cs => cs.map (headV sl dr i)) b) j = headV sl dr b (nth (Tr.get [] σ.boxes b) j)
    rw [Tr.get_map (d := []) (d' := []) (fun i (cs : Box) => cs.map (headV sl dr i)) _ _ (fun _ => rfl)]
    refine nth_mapF _ ?_ _ _
    rw [headV_on]
    exact isUndef_eq (by rw [onV_undef (headF_ok sl dr b)]; rfl)
theorem calm_keys (σ : St) (k k' : Key) (h : k ∈ keys1 (σ.calm.get k')) : isOld (σ.calm.get k) = true := by
  rw [get_calm] at h ⊢
  have hk : ∀ v : V, k ∈ keys1 (σ.calmV v) → isOld (σ.get k) = true := by
    intro v hv
    cases v
    case alias q =>
      change k ∈ keys1 (if isOld (σ.get q) = true then .alias q else .dead) at hv
      split at hv
      · rename_i hq; simp [keys1] at hv; rw [hv]; exact hq
      · cases hv
    case ep q t i off =>
      change k ∈ keys1 (if isOld (σ.get q) = true then .ep q t i off else .dead) at hv
      split at hv
      · rename_i hq; simp [keys1] at hv; rw [hv]; exact hq
      · cases hv
    case list t xs o => cases o <;> cases hv
    all_goals cases hv
  have h1 := hk _ h
  revert h1
  generalize σ.get k = v
  cases v
  case list t xs o =>
    cases o
    case own s f => exact fun _ => rfl
    all_goals exact fun h => by cases h
  all_goals exact fun h => by cases h
def GoodS (B : Bs) (σ : St) (a : Act) (w : World) : Prop := Good B σ.get σ.n a w
theorem GoodS.calm {σ : St} (h : GoodS B σ a w) : GoodS B σ.calm a w := by
  obtain ⟨M, ι, Gs, hs⟩ := h
  exact ⟨M, ι, Gs, hs.calm⟩
theorem GoodS.head {σ : St} (h : GoodS B σ a w) (bad sl dr : List Nat) : GoodS B (σ.head bad sl dr) a w := by
  obtain ⟨M, ι, Gs, hs⟩ := h
  obtain ⟨Gs1, h1⟩ := hs.scrub bad
  have h2 := h1.calm
  obtain ⟨M', Gs', h3, _⟩ := h2.all (f := fun k => headF sl dr (keyNo k)) (fun k => headF_ok _ _ _) (calm_keys _) (g' := (σ.head bad sl dr).get) (fun k => get_weaken _ _ _ k)
  exact ⟨M', ι, Gs', h3⟩
end
end Go.Proofs.Ytkfphlmbdppbfaa.Vm
