/- The machine's operations are the model's: new variables. No condition. -/
import Derived.Test.YtkfphlmbdppbfaaVmOps4
namespace Go.Proofs.Ytkfphlmbdppbfaa.Vm
open Go Go.RowKit
set_option linter.unusedVariables false
set_option linter.unusedSimpArgs false
theorem fits_LsR {E : En} : ∀ (ks : List CK) {vs : List V} {xs : List Value} {G : List Nat}, LsR (CR E) vs xs G → LsR (CR E) (fits ks vs) xs G
  | [], vs, xs, G, h => by unfold fits; exact h
  | k :: ks, [], xs, G, h => by unfold fits; exact h
  | k :: ks, v :: vs, x :: xs, G, ⟨G1, G2, e, h1, h2⟩ => ⟨G1, G2, e, fit_CR h1, fits_LsR ks h2⟩
  | _ :: _, _ :: _, [], _, h => h.elim
where
  fit_CR {E : En} {c : CK} {v : V} {x : Value} {G : List Nat} (h : CR E v x G) : CR E (fit c v) x G := by
    unfold fit
    split
    · exact ⟨⟨rfl, h.1⟩, h.2⟩
    · exact h
theorem CR_one {E : En} {v : V} {x : Value} {G : List Nat} (hs : sure v = true) (h : CR E v x G) : x.cells = #[x] ∧ x.oneCell' = true := by
  cases v
  case undef => cases hs
  case skip => cases hs
  case dead => cases hs
  case agg => exact h.elim
  case tup => exact h.elim
  case alias => exact h.elim
  case ep => exact h.elim
  case list t xs o =>
    have : ∃ a n c, x = .slice a n c := by
      cases o with
      | no => obtain ⟨⟨a, c, e, _⟩, _⟩ := h; exact ⟨_, _, _, e⟩
      | nil => exact ⟨_, _, _, h.1.2⟩
      | own s f =>
        rcases (show ownR _ _ t xs s x G from h) with ⟨_, _, e⟩ | ⟨_, _, ⟨a, c, e, _⟩, _⟩ | ⟨_, _, _, _, _, _, _, e, _⟩ <;> exact ⟨_, _, _, e⟩
    obtain ⟨_, _, _, e⟩ := this
    subst e; exact ⟨rfl, rfl⟩
  case elt => obtain ⟨⟨_, _, _, e, _⟩, _⟩ := h; subst e; exact ⟨rfl, rfl⟩
  case fn => obtain ⟨⟨_, e, _⟩, _⟩ := h; subst e; exact ⟨rfl, rfl⟩
  all_goals (have e := h.1; subst e; exact ⟨rfl, rfl⟩)
theorem shape_one {E : En} {r : Row} {u : V} {x : Value} {G : List Nat} {cs : List V} (h : CR E u x G) (hs : fits r.cks [u] = cs) (hsure : sures cs = true) : LsR (CR E) cs x.cells.toList G := by
  have h1 : LsR (CR E) (fits r.cks [u]) [x] G := fits_LsR r.cks ⟨G, [], by simp, h, rfl⟩
  rw [hs] at h1
  cases cs with
  | nil => exact h1.elim
  | cons v l =>
    cases l with
    | cons _ _ => obtain ⟨_, _, _, _, h2⟩ := h1; exact h2.elim
    | nil =>
      obtain ⟨G1, G2, e, h2, h3⟩ := h1
      have e2 : G2 = [] := h3
      subst e2
      simp only [sures, Bool.and_true] at hsure
      rw [(CR_one hsure h2).1]
      exact ⟨G1, [], e, h2, rfl⟩
theorem shape_LsR {E : En} {r : Row} {u : V} {x : Value} {G : List Nat} {cs : List V} (h : VR E u x G) (hk : keys1 u = []) (hs : r.shape u = some cs) (hsure : sures cs = true) : LsR (CR E) cs x.cells.toList G := by
  unfold Row.shape at hs
  cases u
  case agg l =>
    cases ha : r.agg with
    | true =>
      rw [ha] at hs
      dsimp only at hs
      split at hs
      · cases hs
        obtain ⟨vals, e, hl⟩ := h
        subst e
        exact fits_LsR r.cks hl
      · cases hs
    | false => rw [ha] at hs; cases hs
  case tup l => cases ha : r.agg <;> rw [ha] at hs <;> cases hs
  case alias => cases hk
  case ep => cases hk
  all_goals (
    cases ha : r.agg with
    | true => rw [ha] at hs; cases hs
    | false =>
      rw [ha] at hs
      exact shape_one (CR_of_VR rfl rfl h) (Option.some.inj hs) hsure)
theorem fits_refs : ∀ (ks : List CK) (l : List V), ∀ v ∈ fits ks l, ∃ v0 ∈ l, ∀ b ∈ refs2 v, b ∈ refs2 v0
  | [], l, v, hv => by unfold fits at hv; exact ⟨v, hv, fun b hb => hb⟩
  | k :: ks, [], v, hv => by unfold fits at hv; cases hv
  | k :: ks, u :: l, v, hv => by
    rcases List.mem_cons.1 (show v ∈ fit k u :: fits ks l from hv) with e | e
    · refine ⟨u, by simp, fun b hb => ?_⟩
      rw [e] at hb
      rcases fit_ne (c := k) (v := u) with h | ⟨_, t, h⟩
      · rw [h] at hb; exact hb
      · rw [h] at hb; cases hb
    · obtain ⟨v0, h1, h2⟩ := fits_refs ks l v e
      exact ⟨v0, List.mem_cons_of_mem _ h1, h2⟩
theorem shape_refs {r : Row} {u : V} {cs : List V} (hs : r.shape u = some cs) : ∀ v ∈ cs, ∀ b ∈ refs2 v, b ∈ u.refs := by
  intro v hv b hb
  unfold Row.shape at hs
  cases u
  case agg l =>
    cases ha : r.agg with
    | true =>
      rw [ha] at hs
      dsimp only at hs
      split at hs
      · cases hs
        obtain ⟨v0, h1, h2⟩ := fits_refs r.cks l v hv
        exact List.mem_flatMap.2 ⟨v0, h1, h2 b hb⟩
      · cases hs
    | false => rw [ha] at hs; cases hs
  case tup l => cases ha : r.agg <;> rw [ha] at hs <;> cases hs
  all_goals (
    cases ha : r.agg with
    | true => rw [ha] at hs; cases hs
    | false =>
      rw [ha] at hs
      have hs := Option.some.inj hs
      rw [← hs] at hv
      obtain ⟨v0, h1, h2⟩ := fits_refs r.cks _ v hv
      rw [List.mem_singleton.1 h1] at h2
      exact h2 b hb)
theorem sures_mem : ∀ {l : List V}, sures l = true → ∀ v ∈ l, sure v = true
  | [], _, v, hv => by cases hv
  | u :: l, h, v, hv => by
    simp only [sures, Bool.and_eq_true] at h
    rcases List.mem_cons.1 hv with e | e
    · rw [e]; exact h.1
    · exact sures_mem h.2 v e
theorem go_facts {v : V} (h : sure v = true) : isUndef (goL v) = false ∧ isOld (goL v) = false := by
  cases v
  case undef => cases h
  case list t xs o => cases o <;> exact ⟨rfl, rfl⟩
  all_goals exact ⟨rfl, rfl⟩
section
variable {P : Program} {B : Bs} {X X' : List Nat} {g : Key → V} {n : Nat} {a : Act} {w : World} {M : Mem} {ι : Nat → Nat} {Gs : Key → List Nat} {C : CallR}
theorem Sim.none_new (hs : Sim B X g n a w M ι Gs) {b : Nat} (hb : w.heap.size ≤ b) (o : Nat) : M b o = none := by
  cases h : M b o with
  | none => rfl
  | some v =>
    have := hs.stable b o v h
    unfold World.cell? at this
    rw [Array.getElem?_eq_none hb] at this
    cases this
/-- a new block, nobody's -/
theorem Sim.alloc (hs : Sim B X g n a w M ι Gs) (cs : Array Value) (t : TypeId) : Sim B (w.heap.size :: X) g n a (w.alloc (.cells cs t)) M ι Gs := by
  have hf : Fr [] w (w.alloc (.cells cs t)) := (Fr.refl [] w).alloc _
  refine hs.world (L := []) hf (fun x hx => by cases hx) (fun b _ h => by cases h) (Mle.refl _) (fun b o e => absurd rfl e) (fun b o v hv => ?_) (fun x hx => ?_)
  · exact hf.cell (hs.stable b o v hv) (fun h => by cases h)
  · rcases List.mem_cons.1 hx with e | e
    · subst e; exact .inr ⟨Nat.le_refl _, (Blk.new w cs.toList t).lt⟩
    · exact .inl e
/-- a block that is nobody's becomes a box, and a slot leads to it -/
theorem Sim.boxed (hs : Sim B X g n a w M ι Gs) {d x : Nat} {vs : List V} {cs : Array Value} {t : TypeId} {Gn : List Nat} (hd : d < n) (hx : x ∈ X) (hl : ¬ live g d) (hc : w.heap[x]? = some (.cells cs t (0, 0)))
    (hM : ∀ o, M x o = none) (h0 : vs ≠ []) (hV : LsR (CR (enOf g a (fun k => w.heap[k]?) M ι)) vs cs.toList Gn) (hun : ∀ v ∈ vs, isUndef v = false) (hr : ∀ v ∈ vs, ∀ b ∈ v.refs, live g b)
    (hold : ∀ v ∈ vs, isOld v = false) (hG : ∀ y ∈ Gn, y ∈ X ∧ y ≠ x) (hn : Gn.Nodup) :
    Good B (gputs g (wcells d 0 vs ++ [(.s d, .ref d 0)])) n (a.put (some d) (.pointer (some ⟨x, 0, none⟩))) w := by
  obtain ⟨Gs', h1, _⟩ := hs.newBox (X' := []) hx hd hl hc hM h0 hV hun hr hold hG hn (fun y hy => by cases hy)
  rw [gputs_append, gputs_box vs (fun j => hs.gone d hl j)]
  have hlive : live (gbox g d vs) d := by
    show isUndef (if d = d then nth vs 0 else _) = false
    rw [if_pos rfl]
    cases vs with
    | nil => exact absurd rfl h0
    | cons v vs => exact hun v (by simp)
  refine ⟨M, _, _, h1.setSlot (X' := []) (V := .ref d 0) (Gn := []) hd ⟨?_, rfl⟩ rfl (fun b hb => ?_) (fun y hy => by cases hy) List.nodup_nil (fun y hy => by cases hy) (fun h => by cases h)⟩
  · show Value.pointer (some ⟨x, 0, none⟩) = .pointer (some ⟨if d = d then x else ι d, 0, none⟩)
    rw [if_pos rfl]
  · have : b = d := by simpa [V.refs, refs3, refs2, refs1] using hb
    rw [this]; exact hlive
theorem zero_CR (E : En) (c : CK) : CR E c.zero c.zeroVal [] := by
  cases c <;> first | exact ⟨rfl, rfl⟩ | exact ⟨⟨rfl, rfl⟩, rfl⟩
theorem zeros_LsR (E : En) : ∀ l : List CK, LsR (CR E) (l.map CK.zero) (l.map CK.zeroVal) []
  | [] => rfl
  | c :: l => ⟨[], [], rfl, zero_CR E c, zeros_LsR E l⟩
variable {cfg : Cfg} {fu : FuncId} {o : Oper} {rs : List Key} {ws : WS} (hT : tabOk P cfg.tab cfg.tab = true) (hs : Sim B [] g n a w M ι Gs) (hd : inRange n o.dst = true) (hr : Run C g (evOp cfg fu o) rs ws) (Q : Exit → Act → World → Prop)
include hs hd hr
include hT in
theorem alloc_sound {t : TypeId} (ho : o.op = .alloc t) : o.wp P a w (Good B (gputs g ws) n) Q := by
  simp only [evOp, ho] at hr
  cases hdd : o.dst with
  | none => rw [hdd] at hr; exact hr.fail_inv.elim
  | some d =>
    rw [hdd] at hr hd
    replace hr := hr.rd_inv; obtain ⟨_, _, hr⟩ := hr
    split at hr
    · rename_i hu
      replace hr := hr.opt_inv; obtain ⟨r, hrow, hr⟩ := hr
      obtain ⟨hne, hr⟩ := hr.guard_inv
      obtain ⟨e, _⟩ := hr.ret_inv; subst e
      obtain ⟨i, hi, hsz, _, hz⟩ := (rowOk_of hT hrow).info
      have hzc : ∃ z, i.zero = some z ∧ z.cells = (r.cks.map CK.zeroVal).toArray := by
        rcases hz with ⟨_, hz⟩ | ⟨_, c, hc, hz⟩
        · exact ⟨_, hz, rfl⟩
        · refine ⟨_, hz, ?_⟩
          rw [hc]; cases c <;> rfl
      obtain ⟨z, hz1, hz2⟩ := hzc
      have hrun : (execOp a.eval o).run P w = .ok (.value (.pointer (some ⟨w.heap.size, 0, none⟩))) (w.alloc (.cells (r.cks.map CK.zeroVal).toArray t)) := by
        simp [execOp, ho, Instr.alloc, zeroValue, typeInfo, hi, hz1, newVar, newRow, hz2]
      unfold Oper.wp
      rw [hrun, Oper.upon_value, hdd]
      have hs2 := hs.alloc (r.cks.map CK.zeroVal).toArray t
      refine hs2.boxed (Gn := []) (inRange_lt hd) (by simp) (fun h => by unfold live at h; rw [hu] at h; cases h) (Blk.new w _ t) (hs.none_new (Nat.le_refl _)) ?_ (zeros_LsR _ _) ?_ ?_ ?_ (fun y hy => by cases hy) List.nodup_nil
      · intro e; rw [List.map_eq_nil_iff] at e; rw [e] at hne; cases hne
      all_goals
        intro v hv
        obtain ⟨c, _, rfl⟩ := List.mem_map.1 hv
      · cases c <;> rfl
      · cases c <;> exact fun b hb => by cases hb
      · cases c <;> rfl
    · exact hr.fail_inv.elim
theorem box_sound {t : TypeId} {x : Operand} (ho : o.op = .box t x) : o.wp P a w (Good B (gputs g ws) n) Q := by
  simp only [evOp, ho] at hr
  cases hdd : o.dst with
  | none => rw [hdd] at hr; exact hr.fail_inv.elim
  | some d =>
    rw [hdd] at hr hd
    replace hr := hr.rd_inv; obtain ⟨_, _, hr⟩ := hr
    split at hr
    · rename_i hu
      replace hr := hr.bind_inv; obtain ⟨_, _, v, _, h1, hr⟩ := hr
      replace hr := hr.bind_inv; obtain ⟨_, _, u, _, h2, hr⟩ := hr
      replace hr := hr.opt_inv; obtain ⟨r, hrow, hr⟩ := hr
      replace hr := hr.opt_inv; obtain ⟨cs, hsh, hr⟩ := hr
      obtain ⟨hne, hr⟩ := hr.guard_inv
      rw [Bool.and_eq_true] at hne
      obtain ⟨e, _⟩ := hr.ret_inv; subst e
      obtain ⟨u, ws1⟩ := u
      obtain ⟨G0, hV, hn, hrf, hk⟩ := opnd_sound hs h1
      obtain ⟨Gn, M', Gs', k1, k2, k3, k4, k5, k6, k7, k8, k9, k10, k11⟩ := moveAt_sound hs hk hV hn hrf h2
      have hrun : (execOp a.eval o).run P w = .ok (.value (.pointer (some ⟨w.heap.size, 0, none⟩))) (w.alloc (.cells (a.eval x).cells.toList.toArray t)) := by
        simp [execOp, ho, Instr.box, newVar, newRow]
      unfold Oper.wp
      rw [hrun, Oper.upon_value, hdd, gputs_append]
      have hs2 := k1.alloc (a.eval x).cells.toList.toArray t
      have hf : Fr [] w (w.alloc (.cells (a.eval x).cells.toList.toArray t)) := (Fr.refl [] w).alloc _
      have hls := shape_LsR (k2 (fun _ => none)) k7 hsh hne.2
      refine hs2.boxed (Gn := Gn) (cs := (a.eval x).cells.toList.toArray) (t := t) (inRange_lt hd) (by simp) (fun h => ?_) (Blk.new w _ t) (k1.none_new (Nat.le_refl _)) ?_ ?_ ?_ ?_ ?_ (fun y hy => ?_) k5
      · unfold live at h; rw [k11, hu] at h; cases h
      · intro e; rw [List.map_eq_nil_iff] at e; rw [e] at hne; cases hne.1
      · refine LsR_map (R := CR (enOf (gputs g ws1) a (fun k => (w.alloc (.cells (a.eval x).cells.toList.toArray t)).heap[k]?) M' ι)) goL (fun v x G h => CR_goes h) ?_
        refine LsR_mono (fun v hv y G' hG' h => CR_mono (⟨Mle.refl _, fun g' hg' => ⟨hf.block g' (k1.spare g' (List.mem_append_left _ (hG' g' hg'))).1 (fun h => by cases h), fun _ => rfl⟩, fun _ _ => rfl⟩ : En.le ⟨M', fun k => w.heap[k]?, ι, fun _ => none⟩ (enOf (gputs g ws1) a (fun k => (w.alloc (.cells (a.eval x).cells.toList.toArray t)).heap[k]?) M' ι) (refs2 v) G') h) ?_
        simpa using hls
      · intro v hv
        obtain ⟨c, hc, rfl⟩ := List.mem_map.1 hv
        exact (go_facts (sures_mem hne.2 c hc)).1
      · intro v hv b hb
        obtain ⟨c, hc, rfl⟩ := List.mem_map.1 hv
        obtain ⟨_, _, hcr⟩ := LsR_mem hls c hc
        rw [CR_refs (CR_goes hcr), refs2_go] at hb
        have := k10 b (shape_refs hsh c hc b hb)
        unfold live at this ⊢; rw [k11]; exact this
      · intro v hv
        obtain ⟨c, hc, rfl⟩ := List.mem_map.1 hv
        exact (go_facts (sures_mem hne.2 c hc)).2
      · exact ⟨List.mem_cons_of_mem _ (List.mem_append_left _ hy), fun e => by
          have := (k1.spare y (List.mem_append_left _ hy)).1
          omega⟩
    · exact hr.fail_inv.elim
end
end Go.Proofs.Ytkfphlmbdppbfaa.Vm
