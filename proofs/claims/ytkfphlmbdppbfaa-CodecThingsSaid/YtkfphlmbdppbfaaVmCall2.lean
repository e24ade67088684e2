/- The machine's calls are the model's: lent boxes come back. No condition. -/
import Derived.Test.YtkfphlmbdppbfaaVmCall
namespace Go.Proofs.Ytkfphlmbdppbfaa.Vm
open Go Go.RowKit
set_option linter.unusedVariables false
set_option linter.unusedSimpArgs false
theorem CR_weak {E : En} {v : V} {x : Value} {G : List Nat} (h : CR E v x G) : CR E v.weak x G := by
  cases v <;> try exact h
  rename_i t xs o
  cases o
  case no => exact h
  case nil => obtain ⟨⟨h1, h2⟩, h3⟩ := h; exact .inl ⟨h3, h1, h2⟩
  case own s f => exact h
theorem undef_weak (v : V) : isUndef v.weak = isUndef v := by
  cases v <;> try rfl
  rename_i t xs o; cases o <;> rfl
theorem refs_weak (v : V) : v.weak.refs = v.refs := by
  cases v <;> try rfl
  rename_i t xs o; cases o <;> rfl
theorem VR_go {E : En} {v : V} {x : Value} {G : List Nat} (h : VR E v x G) : VR E v.go x G := by
  cases v <;> try exact h
  case list t xs o => cases o <;> exact h
  case agg cs => obtain ⟨vals, h1, h2⟩ := h; exact ⟨vals, h1, LsR_map goL (fun v x G h => CR_goes h) h2⟩
  case tup cs => obtain ⟨vals, h1, h2⟩ := h; exact ⟨vals, h1, LsR_map goL (fun v x G h => TR_goes h) h2⟩
theorem old_Vgo (v : V) : isOld v.go = false := by
  cases v <;> try rfl
  rename_i t xs o; cases o <;> rfl
theorem undef_Vgo (v : V) : isUndef v.go = isUndef v := by
  cases v <;> try rfl
  rename_i t xs o; cases o <;> rfl
theorem refs_Vgo (v : V) : v.go.refs = v.refs := by
  cases v
  case list t xs o => cases o <;> rfl
  case agg cs => exact flatMap_map_eq goL refs2 refs2_go cs
  case tup cs => exact flatMap_map_eq goL refs3 refs3_go cs
  all_goals rfl
theorem lensOk_spec : ∀ {l2 lent : List Box}, lensOk l2 lent = true → lent.length ≤ l2.length ∧ ∀ i, i < lent.length → (nthB l2 i).length = (nthB lent i).length ∧ ∀ j, j < (nthB l2 i).length → isUndef (nth (nthB l2 i) j) = false
  | _, [], _ => ⟨by simp, fun i hi => by simp at hi⟩
  | [], _ :: _, h => by cases h
  | cs :: r, cs' :: l, h => by
    simp only [lensOk, Bool.and_eq_true] at h
    obtain ⟨h1, h2⟩ := lensOk_spec h.2.2
    refine ⟨by simpa using h1, fun i hi => ?_⟩
    cases i with
    | zero => exact ⟨Nat.eq_of_beq_eq_true h.1, okCells_spec h.2.1⟩
    | succ i => exact h2 i (by simpa using hi)
where
  okCells_spec : ∀ {l : List V}, okCells l = true → ∀ j, j < l.length → isUndef (nth l j) = false
    | [], _, j, hj => by simp at hj
    | v :: l, h, j, hj => by
      simp only [okCells, Bool.and_eq_true] at h
      cases j with
      | zero => simpa [nth] using h.1
      | succ j => exact okCells_spec h.2 j (by simpa using hj)
section
variable {P : Program} {B : Bs} {X X' : List Nat} {g : Key → V} {n : Nat} {a : Act} {w : World} {M : Mem} {ι : Nat → Nat} {Gs : Key → List Nat} {C : CallR}
/-- which of the call's boxes is a box of the caller's -/
def psi (bs : List Nat) (nd : Option Nat) (b : Nat) : Option Nat := if b ∈ bs then some (idx bs b 0) else if nd = some b then some bs.length else none
def ndW (nd : Option Nat) (cs : List V) : WS := match nd with
  | some d => wcells d 0 cs
  | none => []
theorem resume (hs : Sim B [] g n a w M ι Gs) {L G : List Nat} {l2 lent : List Box} {w' : World} {M' : Mem} {ι2 : Nat → Nat} {Gs2 : Key → List Nat} (hs2 : Sim ⟨L, w, M, []⟩ G (gLent l2) 0 act0 w' M' ι2 Gs2)
    {bs : List Nat} {nd : Option Nat} {fwd : Nat → Nat} (hbn : bs.Nodup) (hbl : ∀ b ∈ bs, live g b) (hlens : lensOk l2 lent = true) (hll : lent.length = bs.length)
    (hcells : ∀ i, i < bs.length → ∀ j, nth (nthB lent i) j = g (.c (nthN bs i) j)) (hι : ∀ i, i < bs.length → live (gLent l2) i → ι2 i = ι (nthN bs i)) (hndn : ∀ d, nd = some d → d < n)
    (hL : ∀ x ∈ L, (∃ b, b ∈ bs ∧ ι b = x) ∨ ∃ b j, b ∈ bs ∧ x ∈ Gs (.c b j)) (hnd : ∀ d, nd = some d → ¬ live g d) (hfw : ∀ i, i < bs.length → fwd i = nthN bs i) (hfd : ∀ d, nd = some d → fwd bs.length = d)
    (hl2 : nd = none → l2.length ≤ bs.length) (hl3 : l2.length ≤ bs.length + 1) :
    Sim B G (gMerge g (gLent l2) (psi bs nd) fwd) n a w' M' (ιMerge ι ι2 (psi bs nd)) (GMerge Gs Gs2 (psi bs nd)) ∧ (∀ i, live (gLent l2) i → ιMerge ι ι2 (psi bs nd) (fwd i) = ι2 i ∧ live (gMerge g (gLent l2) (psi bs nd) fwd) (fwd i)) ∧
      gMerge g (gLent l2) (psi bs nd) fwd = gputs g (wboxes bs (l2.map (·.map fun v => goL (v.ren fwd))) ++ ndW nd ((nthB l2 bs.length).map fun v => goL (v.ren fwd))) := by
  obtain ⟨q1, q2⟩ := lensOk_spec hlens
  have hin : ∀ b, b ∈ bs → psi bs nd b = some (idx bs b 0) := fun b hb => if_pos hb
  have hmb : ∀ i, i < bs.length → nthN bs i ∈ bs := fun i hi => List.mem_of_getElem? (nthN_get hi)
  have h1 : ∀ b i, psi bs nd b = some i → fwd i = b := by
    intro b i h
    unfold psi at h
    split at h
    · rename_i hb
      cases h
      obtain ⟨k1, k2⟩ := idx_spec hb
      rw [hfw _ k1, k2]
    · split at h
      · rename_i hd; cases h; exact hfd b hd
      · cases h
  have hlt : ∀ i, live (gLent l2) i → i < l2.length := fun i hi => Nat.lt_of_not_le fun hle => by
    have : isUndef (nth (nthB l2 i) 0) = false := hi
    rw [nthB_out hle] at this; cases this
  have h2 : ∀ i, live (gLent l2) i → psi bs nd (fwd i) = some i := by
    intro i hi
    have hil := hlt i hi
    rcases Nat.lt_or_ge i bs.length with hib | hib
    · rw [hfw i hib, hin _ (hmb i hib), idx_nth hbn hib]
    · cases hnn : nd with
      | none => have := hl2 hnn; omega
      | some d =>
        have e : i = bs.length := by omega
        rw [e, hfd d hnn]
        unfold psi
        rw [if_neg (fun h => hnd d hnn (hbl d h)), if_pos rfl]
  have h3 : ∀ b i, psi bs nd b = some i → live g b → live (gLent l2) i := by
    intro b i h hb
    unfold psi at h
    split at h
    · rename_i hbm
      cases h
      obtain ⟨k1, k2⟩ := idx_spec hbm
      obtain ⟨m1, m2⟩ := q2 (idx bs b 0) (by omega)
      have hc := hcells _ k1 0
      rw [k2] at hc
      refine m2 0 ?_
      rw [m1]
      refine Nat.lt_of_not_le fun hle => ?_
      rw [nth_out _ _ hle] at hc
      unfold live at hb; rw [← hc] at hb; cases hb
    · split at h
      · rename_i hd; exact absurd hb (hnd b hd)
      · cases h
  have h4 : ∀ b i, psi bs nd b = some i → live g b → ι2 i = ι b := by
    intro b i h hb
    unfold psi at h
    split at h
    · rename_i hbm
      cases h
      obtain ⟨k1, k2⟩ := idx_spec hbm
      rw [hι _ k1 (h3 b _ (hin b hbm) hb), k2]
    · split at h
      · rename_i hd; exact absurd hb (hnd b hd)
      · cases h
  have hmg := hs.merge hs2 (ψ := psi bs nd) (fwd := fwd) h1 h2 h3 h4 (fun b i h hn => by
    unfold psi at h
    split at h
    · rename_i hb; exact hbl b hb
    · split at h
      · rename_i hd; have := hndn b hd; omega
      · cases h) (fun x hx => by
    rcases hL x hx with ⟨b, hb, e⟩ | ⟨b, j, hb, e⟩
    · exact .inl ⟨b, _, hin b hb, hbl b hb, e⟩
    · exact .inr ⟨b, _, j, hin b hb, hbl b hb, e⟩)
  refine ⟨hmg, fun i hi => ?_, ?_⟩
  · have e := h2 i hi
    refine ⟨by simp only [ιMerge, e], ?_⟩
    show isUndef (gMerge g (gLent l2) (psi bs nd) fwd (.c (fwd i) 0)) = false
    simp only [gMerge, e]
    rw [undef_go, undef_ren]; exact hi
  · funext k
    have hTn : ∀ (l : List V) j, nth (l.map fun v => goL (v.ren fwd)) j = goL ((nth l j).ren fwd) := fun l j => nth_mapF (fun v => goL (v.ren fwd)) rfl l j
    have hTB : ∀ i, nthB (l2.map (·.map fun v => goL (v.ren fwd))) i = (nthB l2 i).map fun v => goL (v.ren fwd) := fun i => nthB_mapF (·.map fun v => goL (v.ren fwd)) rfl l2 i
    have hwb := gputs_wboxes bs (l2.map (·.map fun v => goL (v.ren fwd))) g hbn (by rw [List.length_map]; omega)
    have hbase : ∀ k, gputs g (wboxes bs (l2.map (·.map fun v => goL (v.ren fwd)))) k = match k with
        | .s t => g (.s t)
        | .c b j => if b ∈ bs then goL ((gLent l2 (.c (idx bs b 0) j)).ren fwd) else g (.c b j) := by
      intro k
      rw [hwb k]
      cases k with
      | s t => rfl
      | c b j =>
        dsimp only
        rw [hTB, List.length_map, hTn]
        by_cases hb : b ∈ bs
        · rw [if_pos hb]
          obtain ⟨k1, k2⟩ := idx_spec hb
          by_cases hj : j < (nthB l2 (idx bs b 0)).length
          · rw [if_pos ⟨hb, hj⟩]; rfl
          · rw [if_neg (fun h => hj h.2)]
            obtain ⟨m1, m2⟩ := q2 (idx bs b 0) (by omega)
            have hc := hcells _ k1 j
            rw [k2, nth_out _ _ (by omega)] at hc
            rw [← hc]
            show V.undef = goL ((nth (nthB l2 (idx bs b 0)) j).ren fwd)
            rw [nth_out _ _ (by omega)]; rfl
        · rw [if_neg (fun h => hb h.1), if_neg hb]
    rw [gputs_append]
    cases hnn : nd with
    | none =>
      show _ = gputs g _ k
      rw [hbase k]
      cases k with
      | s t => rfl
      | c b j =>
        dsimp only [gMerge]
        by_cases hb : b ∈ bs
        · rw [if_pos hb, show psi bs none b = some (idx bs b 0) from if_pos hb]
        · rw [if_neg hb, show psi bs none b = none from by unfold psi; rw [if_neg hb, if_neg (by simp)]]
    | some d =>
      have hdl := hnd d hnn
      have hdb : d ∉ bs := fun h => hdl (hbl d h)
      show _ = gputs (gputs g _) (wcells d 0 _) k
      rw [gputs_wcells' _ _ d 0 k]
      cases k with
      | s t => dsimp only; rw [hbase]; rfl
      | c b j =>
        dsimp only
        rw [hbase]
        dsimp only [gMerge]
        rw [List.length_map, hTn, Nat.sub_zero]
        by_cases hb : b ∈ bs
        · have hne : ¬ (b = d ∧ 0 ≤ j ∧ j < 0 + (nthB l2 bs.length).length) := fun h => hdb (h.1 ▸ hb)
          rw [if_pos hb, show psi bs (some d) b = some (idx bs b 0) from if_pos hb, if_neg hne]
        · rw [if_neg hb]
          by_cases hbd : b = d
          · subst hbd
            rw [show psi bs (some b) b = some bs.length from by unfold psi; rw [if_neg hb, if_pos rfl]]
            by_cases hj : j < (nthB l2 bs.length).length
            · rw [if_pos ⟨rfl, Nat.zero_le _, by omega⟩]; rfl
            · rw [if_neg (by omega), hs.gone b hdl j]
              show goL ((nth (nthB l2 bs.length) j).ren fwd) = _
              rw [nth_out _ _ (by omega)]; rfl
          · rw [if_neg (fun h => hbd h.1), show psi bs (some d) b = none from by unfold psi; rw [if_neg hb, if_neg (by simp; exact fun h => hbd h.symm)]]
theorem callOp_sound (hC : CallOk P C) (hs : Sim B [] g n a w M ι Gs) {dst : Option Nat} (hd : inRange n dst = true) {f : FuncId} {args : List V} {ws0 : WS} {vals : List Value} {rs : List Key} {ws : WS} (hr : Run C g (callOp dst f args ws0) rs ws)
    (hargs : LsR (VR ⟨M, fun k => w.heap[k]?, ι, fun _ => none⟩) args vals []) (hk : ∀ v ∈ args, keys1 v = []) (hrf : ∀ v ∈ args, ∀ b ∈ v.refs, live g b) :
    ∃ ws1, ws = ws0 ++ ws1 ∧ (∀ vals w, (callFunc f vals).run P w = .ok (.enter f vals) w) ∧ Calls P f vals.toArray w fun e w' => ∃ v, e = .returned v ∧ Good B (gputs g ws1) n (a.put dst v) w' := by
  unfold callOp at hr
  replace hr := rdAll_inv hs (addNew_nodup List.nodup_nil) (fun b hb => by
    rcases addNew_mem.1 hb with h | h
    · cases h
    · obtain ⟨v, hv, hb⟩ := List.mem_flatMap.1 h
      exact hrf v hv b hb) hr
  obtain ⟨bs, lent, rs1, hr, hb0, hbn, hbl, hll, hcells, hclosed⟩ := hr
  replace hr := hr.call_inv; obtain ⟨r, hc, hr⟩ := hr
  obtain ⟨hcf, hcall⟩ := hC _ _ _ _ hc
  replace hr := hr.guard_inv; obtain ⟨hlens, hr⟩ := hr
  have hargm : ∀ v ∈ args, ∀ b ∈ v.refs, b ∈ bs := fun v hv b hb => hb0 b (addNew_mem.2 (.inr (List.mem_flatMap.2 ⟨v, hv, hb⟩)))
  -- what is lent
  have hg' : ∀ i j, i < bs.length → gLent (lent.map (·.map fun v => (v.ren fun b => idx bs b 0).weak)) (.c i j) = ((g (.c (nthN bs i) j)).ren fun b => idx bs b 0).weak := by
    intro i j hi
    rw [gLent_map (fun v => (v.ren fun b => idx bs b 0).weak) rfl lent i j]
    show ((nth (nthB lent i) j).ren _).weak = _
    rw [(hcells i hi).1 j]
  have hgo : ∀ i j, bs.length ≤ i → gLent (lent.map (·.map fun v => (v.ren fun b => idx bs b 0).weak)) (.c i j) = .undef := by
    intro i j hi
    rw [gLent_map (fun v => (v.ren fun b => idx bs b 0).weak) rfl lent i j]
    show ((nth (nthB lent i) j).ren _).weak = _
    rw [nthB_out (by omega)]; rfl
  have hmb : ∀ i, i < bs.length → nthN bs i ∈ bs := fun i hi => List.mem_of_getElem? (nthN_get hi)
  have hlt : ∀ i, live (gLent (lent.map (·.map fun v => (v.ren fun b => idx bs b 0).weak))) i → i < bs.length := fun i hi => Nat.lt_of_not_le fun hle => by
    unfold live at hi; rw [hgo i 0 hle] at hi; cases hi
  have hund : ∀ i j, i < bs.length → isUndef (gLent (lent.map (·.map fun v => (v.ren fun b => idx bs b 0).weak)) (.c i j)) = isUndef (g (.c (nthN bs i) j)) := fun i j hi => by rw [hg' i j hi, undef_weak, undef_ren]
  have hlive : ∀ i, i < bs.length → live (gLent (lent.map (·.map fun v => (v.ren fun b => idx bs b 0).weak))) i := fun i hi => by
    unfold live; rw [hund i 0 hi]; exact hbl _ (hmb i hi)
  have hsub := hs.sub (g' := gLent (lent.map (·.map fun v => (v.ren fun b => idx bs b 0).weak))) (n' := 0) (a' := act0) (φ := nthN bs) (X' := []) rfl rfl (fun i hi => hbl _ (hmb i (hlt i hi))) (fun i j hi => hund i j (hlt i hi))
    (fun i hi j => by
      rcases Nat.lt_or_ge i bs.length with h | h
      · exact absurd (hlive i h) hi
      · exact hgo i j h)
    (fun i i' hi hi' e => by rw [← idx_nth hbn (hlt i hi), e, idx_nth hbn (hlt i' hi')])
    (fun i j v hi hcr => by
      rw [hg' i j (hlt i hi)]
      refine CR_weak (CR_ren (fun b hb => ?_) hcr)
      rw [(idx_spec (hclosed _ (hmb i (hlt i hi)) j b hb)).2])
    (fun k b hb => by
      cases k with
      | s i => cases hb
      | c i j =>
        rcases Nat.lt_or_ge i bs.length with h | h
        · rw [hg' i j h, refs_weak, refs_ren] at hb
          obtain ⟨b', hb', rfl⟩ := List.mem_map.1 hb
          exact hlive _ (idx_spec (hclosed _ (hmb i h) j b' hb')).1
        · rw [hgo i j h] at hb; cases hb)
    (fun i => rfl) (fun i => rfl) (fun i _ => rfl) (fun x hx => by cases hx)
  obtain ⟨L, hL, hLm⟩ := hsub.rebase
  have hcalls := hcall L w M _ _ vals hL (LsR_ren (V.ren fun b => idx bs b 0) (fun v hv x G k => VR_ren (fun b hb => by rw [(idx_spec (hargm v hv b hb)).2]) (hk v hv) k) hargs) (fun v hv => by
    obtain ⟨u, hu, rfl⟩ := List.mem_map.1 hv
    refine ⟨by rw [keys_ren]; exact hk u hu, fun b hb => ?_⟩
    rw [refs_ren] at hb
    obtain ⟨b', hb', rfl⟩ := List.mem_map.1 hb
    exact hlive _ (idx_spec (hargm u hu b' hb')).1)
  have hL' : ∀ x ∈ L, (∃ b, b ∈ bs ∧ ι b = x) ∨ ∃ b j, b ∈ bs ∧ x ∈ Gs (.c b j) := by
    intro x hx
    rcases hLm x hx with ⟨i, hi, e⟩ | ⟨k, hk⟩
    · exact .inl ⟨_, hmb i (hlt i hi), e⟩
    · cases k with
      | s i => cases hk
      | c i j =>
        unfold GSub at hk
        dsimp only at hk
        split at hk
        · rename_i hi; exact .inr ⟨_, j, hmb i (hlt i hi), hk⟩
        · cases hk
  have hfin : ∀ (nd : Option Nat) (ws1 : WS), (∀ d, nd = some d → ¬ live g d) → (∀ d, nd = some d → dst = some d) → (nd = none → r.2.length ≤ bs.length) → r.2.length ≤ bs.length + 1 →
      ws1 = wboxes bs (r.2.map (·.map fun v => goL (v.ren fun i => if Nat.blt i bs.length then nthN bs i else dst.getD 0))) ++ ndW nd ((nthB r.2 bs.length).map fun v => goL (v.ren fun i => if Nat.blt i bs.length then nthN bs i else dst.getD 0)) ++ dstW dst (V.go (r.1.ren fun i => if Nat.blt i bs.length then nthN bs i else dst.getD 0)) →
      Calls P f vals.toArray w fun e w' => ∃ v, e = .returned v ∧ Good B (gputs g ws1) n (a.put dst v) w' := by
    intro nd ws1 hnd hnd' hl2 hl3 hws
    refine Calls.mono hcalls fun e w' he => ?_
    obtain ⟨v, e1, M', ι2, Gs2, G, hs2, hv, hGn, hkr, hrr, hι2⟩ := he
    refine ⟨v, e1, ?_⟩
    have hfw : ∀ i, i < bs.length → (if Nat.blt i bs.length then nthN bs i else dst.getD 0) = nthN bs i := fun i hi => by
      have : Nat.blt i bs.length = true := Nat.ble_eq_true_of_le hi
      rw [if_pos this]
    obtain ⟨m1, m2, m3⟩ := resume hs hs2 (nd := nd) (fwd := fun i => if Nat.blt i bs.length then nthN bs i else dst.getD 0) hbn hbl hlens hll (fun i hi => (hcells i hi).1) (fun i hi hl => hι2 i (hlive i hi) hl) (fun d hd' => by rw [hnd' d hd'] at hd; exact inRange_lt hd) hL' hnd hfw (fun d hd' => by
      have : ¬ Nat.blt bs.length bs.length = true := by
        intro h; exact absurd (Nat.le_of_ble_eq_true h) (by omega)
      show (if Nat.blt bs.length bs.length then nthN bs bs.length else dst.getD 0) = d
      rw [if_neg this, hnd' d hd']; rfl) hl2 hl3
    rw [hws, gputs_append, ← m3]
    have hvr : VR ⟨M', fun k => w'.heap[k]?, ιMerge ι ι2 (psi bs nd), fun _ => none⟩ (V.go (r.1.ren fun i => if Nat.blt i bs.length then nthN bs i else dst.getD 0)) v G :=
      VR_go (VR_ren (fun b hb => (m2 b (hrr b hb)).1) hkr hv)
    cases hdd : dst with
    | none =>
      rw [hdd] at m1
      exact ⟨M', _, _, m1.less (X' := []) (fun x hx => by cases hx)⟩
    | some d =>
      rw [hdd] at hd m1 m2 hvr
      refine ⟨M', _, _, m1.setSlot (X' := []) (inRange_lt hd) (VR_any (by
        have : ∀ u : V, keys1 u.go = keys1 u := fun u => by
          cases u <;> try rfl
          rename_i t xs o; cases o <;> rfl
        rw [this, keys_ren]; exact hkr) hvr) (old_Vgo _) (fun b hb => ?_) (fun y hy => hy) hGn (fun x hx => by cases hx) (fun h => by rw [h] at hvr; exact hvr)⟩
      rw [refs_Vgo, refs_ren] at hb
      obtain ⟨b', hb', rfl⟩ := List.mem_map.1 hb
      exact (m2 b' (hrr b' hb')).2
  have hl1 := (lensOk_spec hlens).1
  have hdl : ∀ {l : List Box}, r.2.drop bs.length = l → r.2.length = bs.length + l.length := by
    intro l h
    have : (r.2.drop bs.length).length = l.length := by rw [h]
    rw [List.length_drop] at this
    omega
  split at hr
  · rename_i hdrop
    replace hr := hr.ret_inv; obtain ⟨e, _⟩ := hr; subst e
    have hl := hdl hdrop
    simp only [List.length_nil] at hl
    refine ⟨_, rfl, hcf, hfin none _ (fun d h => by cases h) (fun d h => by cases h) (fun _ => by omega) (by omega) ?_⟩
    simp only [ndW, List.append_nil]
  · rename_i d cs hdrop
    replace hr := hr.rd_inv; obtain ⟨_, _, hr⟩ := hr
    split at hr
    · rename_i hu
      replace hr := hr.ret_inv; obtain ⟨e, _⟩ := hr; subst e
      have hl := hdl hdrop
      simp only [List.length_cons, List.length_nil] at hl
      have hnth : nthB r.2 bs.length = cs := by
        have h1 := nthB_get (l := r.2) (i := bs.length) (by omega)
        have h2 : (r.2.drop bs.length)[0]? = some cs := by rw [hdrop]; rfl
        rw [List.getElem?_drop, Nat.add_zero, h1] at h2
        exact Option.some.inj h2
      refine ⟨_, rfl, hcf, hfin (some d) _ (fun d' h => ?_) (fun d' h => by cases h; rfl) (fun h => by cases h) (by omega) ?_⟩
      · cases h; unfold live; rw [hu]; simp
      · simp only [ndW, hnth, dstW, List.append_assoc]
    · exact hr.fail_inv.elim
  · exact hr.fail_inv.elim
end
end Go.Proofs.Ytkfphlmbdppbfaa.Vm
