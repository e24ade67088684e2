/- The machine's calls are the model's. No condition. -/
import Derived.Test.YtkfphlmbdppbfaaVmRen
namespace Go.Proofs.Ytkfphlmbdppbfaa.Vm
open Go Go.RowKit
set_option linter.unusedVariables false
set_option linter.unusedSimpArgs false
/-- a call of the machine is one of the model -/
def CallOk (P : Program) (C : CallR) : Prop :=
  ∀ f args lent r, C f args lent r → (∀ vals w, (callFunc f vals).run P w = .ok (.enter f vals) w) ∧
    ∀ (L : List Nat) (w : World) (M : Mem) (ι : Nat → Nat) (Gs : Key → List Nat) (vals : List Value), Sim ⟨L, w, M, []⟩ [] (gLent lent) 0 act0 w M ι Gs →
      LsR (VR ⟨M, fun k => w.heap[k]?, ι, fun _ => none⟩) args vals [] → (∀ v ∈ args, keys1 v = [] ∧ ∀ b ∈ v.refs, live (gLent lent) b) →
      Calls P f vals.toArray w fun e w' => ∃ v, e = .returned v ∧ ∃ M' ι' Gs' G, Sim ⟨L, w, M, []⟩ G (gLent r.2) 0 act0 w' M' ι' Gs' ∧ VR ⟨M', fun k => w'.heap[k]?, ι', fun _ => none⟩ r.1 v G ∧ G.Nodup ∧ keys1 r.1 = [] ∧
        (∀ b ∈ r.1.refs, live (gLent r.2) b) ∧ ∀ b, live (gLent lent) b → live (gLent r.2) b → ι' b = ι b
/-! lists of boxes -/
theorem mem_iff : ∀ {l : List Nat} {b : Nat}, Vm.mem l b = true ↔ b ∈ l
  | [], b => by simp [Vm.mem]
  | a :: l, b => by
    simp only [Vm.mem, Bool.or_eq_true, List.mem_cons]
    rw [mem_iff (l := l)]
    exact ⟨fun h => h.elim (fun h => .inl (Nat.eq_of_beq_eq_true h).symm) .inr, fun h => h.elim (fun h => .inl (by rw [h]; exact Nat.beq_refl a)) .inr⟩
theorem addNew_mem : ∀ {l acc : List Nat} {b : Nat}, b ∈ addNew acc l ↔ b ∈ acc ∨ b ∈ l
  | [], acc, b => by simp [addNew]
  | c :: r, acc, b => by
    unfold addNew
    split
    · rename_i h
      rw [addNew_mem, List.mem_cons]
      have := mem_iff.1 h
      exact ⟨fun h => h.elim .inl (fun h => .inr (.inr h)), fun h => h.elim .inl (fun h => h.elim (fun h => .inl (by rw [h]; exact this)) .inr)⟩
    · rw [addNew_mem, List.mem_append, List.mem_singleton, List.mem_cons, or_assoc]
theorem addNew_nodup : ∀ {l acc : List Nat}, acc.Nodup → (addNew acc l).Nodup
  | [], _, h => h
  | c :: r, acc, h => by
    unfold addNew
    split
    · exact addNew_nodup h
    · rename_i hc
      refine addNew_nodup (List.nodup_append.2 ⟨h, by simp, fun x hx y hy e => ?_⟩)
      rw [List.mem_singleton] at hy
      subst hy e
      exact hc (mem_iff.2 hx)
theorem addNew_len : ∀ {l acc : List Nat}, acc.length ≤ (addNew acc l).length
  | [], acc => Nat.le_refl _
  | c :: r, acc => by
    unfold addNew
    split
    · exact addNew_len
    · have := addNew_len (l := r) (acc := acc ++ [c])
      simp at this; omega
theorem addNew_closed : ∀ {l acc : List Nat}, (addNew acc l).length = acc.length → ∀ b ∈ l, b ∈ acc
  | [], acc, _, b, hb => by cases hb
  | c :: r, acc, h, b, hb => by
    unfold addNew at h
    split at h
    · rename_i hc
      rcases List.mem_cons.1 hb with e | e
      · rw [e]; exact mem_iff.1 hc
      · exact addNew_closed h b e
    · have := addNew_len (l := r) (acc := acc ++ [c])
      simp at this; omega
theorem nthN_get : ∀ {l : List Nat} {i : Nat}, i < l.length → l[i]? = some (nthN l i)
  | [], i, h => by simp at h
  | a :: l, 0, h => rfl
  | a :: l, i + 1, h => by rw [List.getElem?_cons_succ]; exact nthN_get (by simpa using h)
theorem idx_shift : ∀ (l : List Nat) (b n : Nat), idx l b n = idx l b 0 + n
  | [], b, n => by simp [idx]
  | a :: l, b, n => by
    unfold idx
    split
    · omega
    · rw [idx_shift l b (n + 1), idx_shift l b (0 + 1)]; omega
theorem idx_spec : ∀ {l : List Nat} {b : Nat}, b ∈ l → idx l b 0 < l.length ∧ nthN l (idx l b 0) = b
  | [], b, h => by cases h
  | a :: l, b, h => by
    unfold idx
    split
    · rename_i e; exact ⟨by simp, Nat.eq_of_beq_eq_true e⟩
    · rename_i e
      have hb : b ∈ l := (List.mem_cons.1 h).resolve_left (fun h => e (by rw [h]; exact Nat.beq_refl a))
      obtain ⟨h1, h2⟩ := idx_spec hb
      rw [idx_shift]
      exact ⟨by simp; omega, h2⟩
theorem idx_nth {l : List Nat} (hn : l.Nodup) {i : Nat} (hi : i < l.length) : idx l (nthN l i) 0 = i := by
  have h1 := nthN_get hi
  have hm : nthN l i ∈ l := List.mem_of_getElem? h1
  obtain ⟨h2, h3⟩ := idx_spec hm
  have h4 := nthN_get h2
  rw [h3] at h4
  exact (List.getElem?_inj h2 hn).1 (h4.trans h1.symm)
theorem nthB_get : ∀ {l : List Box} {i : Nat}, i < l.length → l[i]? = some (nthB l i)
  | [], i, h => by simp at h
  | a :: l, 0, h => rfl
  | a :: l, i + 1, h => by rw [List.getElem?_cons_succ]; exact nthB_get (by simpa using h)
theorem nthB_out : ∀ {l : List Box} {i : Nat}, l.length ≤ i → nthB l i = []
  | [], _, _ => rfl
  | _ :: l, 0, h => by simp at h
  | _ :: l, i + 1, h => nthB_out (l := l) (by simpa using h)
theorem nth_mapF (T : V → V) (hT : T .undef = .undef) : ∀ (cs : List V) (j : Nat), nth (cs.map T) j = T (nth cs j)
  | [], _ => hT.symm
  | _ :: cs, 0 => rfl
  | _ :: cs, j + 1 => nth_mapF T hT cs j
theorem nthB_mapF (T : Box → Box) (hT : T [] = []) : ∀ (l : List Box) (i : Nat), nthB (l.map T) i = T (nthB l i)
  | [], _ => hT.symm
  | _ :: l, 0 => rfl
  | _ :: l, i + 1 => nthB_mapF T hT l i
theorem gLent_map (T : V → V) (hT : T .undef = .undef) (l : List Box) (b j : Nat) : gLent (l.map (·.map T)) (.c b j) = T (gLent l (.c b j)) := by
  show nth (nthB (l.map (·.map T)) b) j = T (nth (nthB l b) j)
  rw [nthB_mapF _ rfl, nth_mapF T hT]
/-! what a call reads -/
section
variable {P : Program} {B : Bs} {X X' : List Nat} {g : Key → V} {n : Nat} {a : Act} {w : World} {M : Mem} {ι : Nat → Nat} {Gs : Key → List Nat} {C : CallR}
theorem rdBox_inv : ∀ {m b j : Nat} {k : List V → RM WS} {rs : List Key} {ws : WS}, Run C g (rdBox b j m k) rs ws →
    ∃ cs rs', Run C g (k cs) rs' ws ∧ (∀ i, i < cs.length → nth cs i = g (.c b (j + i)) ∧ isUndef (nth cs i) = false) ∧ isUndef (g (.c b (j + cs.length))) = true
  | 0, b, j, k, rs, ws, h => h.fail_inv.elim
  | m + 1, b, j, k, rs, ws, h => by
    obtain ⟨_, _, h⟩ := Run.rd_inv h
    split at h
    · rename_i hu
      exact ⟨[], _, h, fun i hi => by simp at hi, by simpa using hu⟩
    · rename_i hu
      obtain ⟨cs, rs', h1, h2, h3⟩ := rdBox_inv h
      refine ⟨g (.c b j) :: cs, rs', h1, fun i hi => ?_, by rw [List.length_cons, show j + (cs.length + 1) = j + 1 + cs.length by omega]; exact h3⟩
      cases i with
      | zero => exact ⟨rfl, by simpa [nth] using hu⟩
      | succ i => rw [show j + (i + 1) = j + 1 + i by omega]; exact h2 i (by simpa using hi)
theorem Sim.beyond (hs : Sim B X g n a w M ι Gs) {b j : Nat} (h : isUndef (g (.c b j)) = true) : ∀ i, j ≤ i → g (.c b i) = .undef := by
  intro i hi
  refine Classical.byContradiction fun hne => ?_
  have hu : isUndef (g (.c b i)) = false := by
    cases hq : isUndef (g (.c b i)) with
    | false => rfl
    | true => exact absurd (isUndef_eq hq) hne
  obtain ⟨cs, t, k1, k2⟩ := hs.box b (hs.live_of hu)
  have hlt := (k2 i).1 hu
  have := ((k2 j).2 _ (Array.getElem?_eq_getElem (show j < cs.size by omega))).1
  rw [this] at h; cases h
theorem rdBoxes_inv (hs : Sim B X g n a w M ι Gs) : ∀ {bs : List Nat} {k : List Box → RM WS} {rs : List Key} {ws : WS}, Run C g (rdBoxes bs k) rs ws →
    ∃ l rs', Run C g (k l) rs' ws ∧ l.length = bs.length ∧ ∀ i, i < bs.length → (∀ j, nth (nthB l i) j = g (.c (nthN bs i) j)) ∧ ∀ j, j < (nthB l i).length → isUndef (nth (nthB l i) j) = false
  | [], k, rs, ws, h => ⟨[], _, h, rfl, fun i hi => by simp at hi⟩
  | b :: r, k, rs, ws, h => by
    obtain ⟨cs, rs', h1, h2, h3⟩ := rdBox_inv h
    obtain ⟨l, rs2, h4, h5, h6⟩ := rdBoxes_inv hs h1
    refine ⟨cs :: l, rs2, h4, by simp [h5], fun i hi => ?_⟩
    cases i with
    | zero =>
      refine ⟨fun j => ?_, fun j hj => (h2 j hj).2⟩
      show nth cs j = g (.c b j)
      rcases Nat.lt_or_ge j cs.length with hj | hj
      · rw [(h2 j hj).1, Nat.zero_add]
      · rw [nth_out cs j hj]
        rw [Nat.zero_add] at h3
        exact (hs.beyond h3 j hj).symm
    | succ i => exact h6 i (by simpa using hi)
theorem rdAll_inv (hs : Sim B X g n a w M ι Gs) : ∀ {m : Nat} {bs0 : List Nat} {k : List Nat → List Box → RM WS} {rs : List Key} {ws : WS}, bs0.Nodup → (∀ b ∈ bs0, live g b) → Run C g (rdAll m bs0 k) rs ws →
    ∃ bs l rs', Run C g (k bs l) rs' ws ∧ (∀ b ∈ bs0, b ∈ bs) ∧ bs.Nodup ∧ (∀ b ∈ bs, live g b) ∧ l.length = bs.length ∧ (∀ i, i < bs.length → (∀ j, nth (nthB l i) j = g (.c (nthN bs i) j)) ∧ ∀ j, j < (nthB l i).length → isUndef (nth (nthB l i) j) = false) ∧
      ∀ b ∈ bs, ∀ j, ∀ r ∈ (g (.c b j)).refs, r ∈ bs
  | 0, bs0, k, rs, ws, _, _, h => h.fail_inv.elim
  | m + 1, bs0, k, rs, ws, hn, hlv, h => by
    obtain ⟨l, rs', h1, h2, h3⟩ := rdBoxes_inv hs h
    have hcell : ∀ b ∈ bs0, ∀ j, ∀ r ∈ (g (.c b j)).refs, r ∈ l.flatMap fun cs => cs.flatMap V.refs := by
      intro b hb j r hr
      obtain ⟨i, hi⟩ := List.mem_iff_getElem?.1 hb
      have hlt := (List.getElem?_eq_some_iff.1 hi).1
      have e : nthN bs0 i = b := by have := nthN_get hlt; rw [hi] at this; exact (Option.some.inj this).symm
      obtain ⟨h4, h5⟩ := h3 i hlt
      rw [e] at h4
      have hj : j < (nthB l i).length := Nat.lt_of_not_le fun hle => by
        rw [← h4, nth_out _ _ hle] at hr; cases hr
      refine List.mem_flatMap.2 ⟨nthB l i, List.mem_of_getElem? (nthB_get (by omega)), List.mem_flatMap.2 ⟨nth (nthB l i) j, nth_mem _ _ hj, by rw [h4]; exact hr⟩⟩
    have hback : ∀ r ∈ (l.flatMap fun cs => cs.flatMap V.refs), live g r := by
      intro r hr
      obtain ⟨cs, hcs, hr⟩ := List.mem_flatMap.1 hr
      obtain ⟨v, hv, hr⟩ := List.mem_flatMap.1 hr
      obtain ⟨i, hi⟩ := List.mem_iff_getElem?.1 hcs
      have hlt := (List.getElem?_eq_some_iff.1 hi).1
      have e : nthB l i = cs := by have := nthB_get hlt; rw [hi] at this; exact (Option.some.inj this).symm
      obtain ⟨j, hj⟩ := List.mem_iff_getElem?.1 hv
      have e2 := nth_get _ _ _ hj
      have := (h3 i (by omega)).1 j
      rw [e, e2] at this
      rw [this] at hr
      exact hs.refs _ r hr
    dsimp only at h1
    split at h1
    · rename_i he
      have he := Nat.eq_of_beq_eq_true he
      exact ⟨bs0, l, rs', h1, fun b hb => hb, hn, hlv, h2, h3, fun b hb j r hr => addNew_closed he r (hcell b hb j r hr)⟩
    · obtain ⟨bs, l', rs2, k1, k2, k3, k4, k5, k6, k7⟩ := rdAll_inv hs (addNew_nodup hn) (fun b hb => (addNew_mem.1 hb).elim (hlv b) (hback b)) h1
      exact ⟨bs, l', rs2, k1, fun b hb => k2 b (addNew_mem.2 (.inl hb)), k3, k4, k5, k6, k7⟩
theorem gputs_wcells' : ∀ (vs : List V) (g : Key → V) (d i : Nat) (k : Key), gputs g (wcells d i vs) k = match k with
    | .c b j => if b = d ∧ i ≤ j ∧ j < i + vs.length then nth vs (j - i) else g (.c b j)
    | .s t => g (.s t)
  | [], g, d, i, .s t => rfl
  | [], g, d, i, .c b j => by
    show g (.c b j) = if b = d ∧ i ≤ j ∧ j < i + 0 then _ else _
    rw [if_neg (by omega)]
  | v :: vs, g, d, i, k => by
    show gputs (gput g (.c d i) v) (wcells d (i + 1) vs) k = _
    rw [gputs_wcells' vs _ d (i + 1) k]
    cases k with
    | s t => exact gput_ne _ (by intro e; cases e)
    | c b j =>
      dsimp only
      by_cases e : b = d
      · subst e
        by_cases e1 : i = j
        · subst e1
          rw [if_neg (by omega), gput_self, if_pos ⟨rfl, Nat.le_refl _, by simp⟩, Nat.sub_self]; rfl
        · rw [gput_ne _ (by intro e; cases e; exact e1 rfl)]
          by_cases e2 : i + 1 ≤ j ∧ j < i + 1 + vs.length
          · rw [if_pos ⟨rfl, e2⟩, if_pos ⟨rfl, by omega, by simp; omega⟩, show j - i = (j - (i + 1)) + 1 by omega]; rfl
          · rw [if_neg (fun h => e2 h.2), if_neg (by simp; omega)]
      · rw [if_neg (fun h => e h.1), if_neg (fun h => e h.1), gput_ne _ (by intro e'; cases e'; exact e rfl)]
theorem gputs_wboxes : ∀ (bs : List Nat) (l : List Box) (g : Key → V), bs.Nodup → bs.length ≤ l.length → ∀ k, gputs g (wboxes bs l) k = match k with
    | .s t => g (.s t)
    | .c b j => if b ∈ bs ∧ j < (nthB l (idx bs b 0)).length then nth (nthB l (idx bs b 0)) j else g (.c b j)
  | [], l, g, _, _, .s t => by simp [wboxes, gputs]
  | [], l, g, _, _, .c b j => by simp [wboxes, gputs]
  | b0 :: bs, [], g, _, h, k => by simp at h
  | b0 :: bs, cs :: l, g, hn, h, k => by
    have hnm : b0 ∉ bs := (List.nodup_cons.1 hn).1
    show gputs g (wcells b0 0 cs ++ wboxes bs l) k = _
    rw [gputs_append, gputs_wboxes bs l _ (List.nodup_cons.1 hn).2 (by simpa using h) k]
    cases k with
    | s t => exact gputs_wcells' cs g b0 0 (.s t)
    | c b j =>
      dsimp only
      by_cases e : b = b0
      · subst e
        have hi : idx (b :: bs) b 0 = 0 := by simp [idx]
        rw [if_neg (fun h => hnm h.1), gputs_wcells' cs g b 0 (.c b j), hi]
        dsimp only
        by_cases hj : j < cs.length
        · rw [if_pos ⟨rfl, Nat.zero_le _, by omega⟩, if_pos ⟨by simp, hj⟩, Nat.sub_zero]; rfl
        · rw [if_neg (by omega), if_neg (fun h => hj h.2)]
      · have hi : idx (b0 :: bs) b 0 = idx bs b 0 + 1 := by
          have hne : Nat.beq b0 b = false := by
            cases hq : Nat.beq b0 b with
            | false => rfl
            | true => exact absurd (Nat.eq_of_beq_eq_true hq).symm e
          show (if Nat.beq b0 b = true then 0 else idx bs b (0 + 1)) = _
          rw [hne, if_neg (by simp), idx_shift]
        rw [hi]
        show (if b ∈ bs ∧ j < (nthB l (idx bs b 0)).length then _ else _) = if b ∈ b0 :: bs ∧ j < (nthB l (idx bs b 0)).length then nth (nthB l (idx bs b 0)) j else _
        have hm : b ∈ b0 :: bs ↔ b ∈ bs := ⟨fun h => (List.mem_cons.1 h).resolve_left e, fun h => List.mem_cons_of_mem _ h⟩
        by_cases hc : b ∈ bs ∧ j < (nthB l (idx bs b 0)).length
        · rw [if_pos hc, if_pos ⟨hm.2 hc.1, hc.2⟩]
        · rw [if_neg hc, if_neg (fun h => hc ⟨hm.1 h.1, h.2⟩), gputs_wcells' cs g b0 0 (.c b j)]
          dsimp only
          rw [if_neg (fun h => e h.1)]
end
end Go.Proofs.Ytkfphlmbdppbfaa.Vm
