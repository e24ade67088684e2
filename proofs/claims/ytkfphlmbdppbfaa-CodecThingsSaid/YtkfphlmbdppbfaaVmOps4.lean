/- The machine's operations are the model's: loads. No condition. -/
import Derived.Test.YtkfphlmbdppbfaaVmOps3
namespace Go.Proofs.Ytkfphlmbdppbfaa.Vm
open Go Go.RowKit
set_option linter.unusedVariables false
set_option linter.unusedSimpArgs false
theorem load_flat {P : Program} {tab : List Row} {t : TypeId} {r : Row} {w : World} (h : RowOk P tab r t) (ha : r.agg = false) {b o : Nat} {v : Value} (hc : w.cell? ⟨b, o, none⟩ = some v) :
    (Instr.loadAt t (.pointer (some ⟨b, o, none⟩))).run P w = .ok v w := by
  unfold Instr.loadAt Instr.sureAddr loadVar
  rw [Sem.run_bind]
  simp only [Sem.run_pure, Result.andThen_ok]
  rw [Sem.run_bind, isAgg_run h, ha]
  simp [run_load, hc]
theorem load_whole {P : Program} {tab : List Row} {t : TypeId} {r : Row} {w : World} (h : RowOk P tab r t) (ha : r.agg = true) {b o : Nat} {cs : List Value} (hl : cs.length = r.cks.length) (hc : ∀ (j : Nat) (v : Value), cs[j]? = some v → w.cell? ⟨b, o + j, none⟩ = some v) :
    (Instr.loadAt t (.pointer (some ⟨b, o, none⟩))).run P w = .ok (.agg cs.toArray) w := by
  unfold Instr.loadAt Instr.sureAddr loadVar
  rw [Sem.run_bind]
  simp only [Sem.run_pure, Result.andThen_ok]
  rw [Sem.run_bind, isAgg_run h, ha]
  have := run_loadCells_list (P := P) (w := w) ⟨b, o, none⟩ cs (fun j v hv => by rw [addr_add]; exact hc j v hv)
  simp [sizeOf_run h, ← hl, this]
/-- the cells of an element, one by one -/
theorem cells_LsR {E : En} {R : V → Value → List Nat → Prop} (hR : ∀ v x, VR E v x [] → isCell v = true → keys1 v = [] → R v x []) : ∀ {t : Ty} {x : t.den} {us : List Value}, datR E.M t x us → LsR R (toCells t x) us []
  | .int _, _, _, h => by cases h; exact ⟨[], [], rfl, hR _ _ ⟨rfl, rfl⟩ rfl rfl, rfl⟩
  | .bool, _, _, h => by cases h; exact ⟨[], [], rfl, hR _ _ ⟨rfl, rfl⟩ rfl rfl, rfl⟩
  | .str, _, _, h => by cases h; exact ⟨[], [], rfl, hR _ _ ⟨rfl, rfl⟩ rfl rfl, rfl⟩
  | .unit, _, _, h => by cases h; exact rfl
  | .pair a b, x, _, ⟨c1, c2, h, h1, h2⟩ => by
    subst h
    exact LsR_app (cells_LsR hR h1) (cells_LsR hR h2)
  | .list t, xs, _, ⟨v, h, hv⟩ => by
    subst h
    exact ⟨[], [], rfl, hR _ _ ⟨hv, rfl⟩ rfl rfl, rfl⟩
where
  LsR_app {R : V → Value → List Nat → Prop} : ∀ {vs ws : List V} {xs ys : List Value}, LsR R vs xs [] → LsR R ws ys [] → LsR R (vs ++ ws) (xs ++ ys) []
  | [], _, [], _, _, k => k
  | v :: vs, ws, x :: xs, ys, ⟨G1, G2, e, h1, h2⟩, k => by
    have e1 : G1 = [] := (List.append_eq_nil_iff.1 e.symm).1
    have e2 : G2 = [] := (List.append_eq_nil_iff.1 e.symm).2
    subst e1 e2
    exact ⟨[], [], rfl, h1, LsR_app h2 k⟩
  | [], _, _ :: _, _, h, _ => h.elim
  | _ :: _, _, [], _, h, _ => h.elim
theorem LsR_len {R : V → Value → List Nat → Prop} : ∀ {vs : List V} {xs : List Value} {G : List Nat}, LsR R vs xs G → vs.length = xs.length
  | [], [], _, _ => rfl
  | v :: vs, x :: xs, _, ⟨_, _, _, _, h⟩ => by simp [LsR_len h]
  | [], _ :: _, _, h => h.elim
  | _ :: _, [], _, h => h.elim
theorem LsR_mem {R : V → Value → List Nat → Prop} : ∀ {vs : List V} {xs : List Value} {G : List Nat}, LsR R vs xs G → ∀ v ∈ vs, ∃ x G', R v x G'
  | [], [], _, _, v, hv => by cases hv
  | u :: vs, x :: xs, _, ⟨G1, G2, _, h1, h2⟩, v, hv => by
    rcases List.mem_cons.1 hv with e | e
    · rw [e]; exact ⟨x, G1, h1⟩
    · exact LsR_mem h2 v e
  | [], _ :: _, _, h, _, _ => h.elim
  | _ :: _, [], _, h, _, _ => h.elim
/-- what is loaded out of an element -/
theorem elt_load {P : Program} {tab : List Row} {t : TypeId} {r : Row} {w : World} (hrow : RowOk P tab r t) {E : En} {ty : Ty} {x : ty.den} {us : List Value} {off : Nat} {v : V} (h : datR E.M ty x us)
    (hj : r.join (((toCells ty x).drop off).take r.cks.length) = some v) {b o : Nat} (hc : ∀ (j : Nat) (u : Value), us[j]? = some u → w.cell? ⟨b, o + j, none⟩ = some u) :
    ∃ y, (Instr.loadAt t (.pointer (some ⟨b, o + off, none⟩))).run P w = .ok y w ∧ VR E v y [] ∧ isOld v = false ∧ isUndef v = false ∧ v.refs = [] := by
  have hls : LsR (CR E) (toCells ty x) us [] := cells_LsR (R := CR E) (fun v x hv hc hk => CR_of_VR hc hk hv) h
  obtain ⟨G1, G2, e1, h1⟩ := LsR_drop off hls
  obtain ⟨G3, G4, e2, h2⟩ := LsR_take r.cks.length h1
  have e3 : G3 = [] := by
    have := (List.append_eq_nil_iff.1 e1.symm).2
    rw [this] at e2
    exact (List.append_eq_nil_iff.1 e2.symm).1
  subst e3
  have hnr : ∀ (t : Ty) (x : t.den), ∀ u ∈ toCells t x, u.refs = [] ∧ isOld u = false ∧ isUndef u = false := by
    intro t
    induction t with
    | int k => intro x u hu; rw [List.mem_singleton.1 hu]; exact ⟨rfl, rfl, rfl⟩
    | bool => intro x u hu; rw [List.mem_singleton.1 hu]; exact ⟨rfl, rfl, rfl⟩
    | str => intro x u hu; rw [List.mem_singleton.1 hu]; exact ⟨rfl, rfl, rfl⟩
    | unit => intro x u hu; cases hu
    | pair a b iha ihb => intro x u hu; exact (List.mem_append.1 hu).elim (iha x.1 u) (ihb x.2 u)
    | list t _ => intro x u hu; rw [List.mem_singleton.1 hu]; exact ⟨rfl, rfl, rfl⟩
  have hsub : ∀ u ∈ ((toCells ty x).drop off).take r.cks.length, u ∈ toCells ty x := fun u hu => List.mem_of_mem_drop (List.mem_of_mem_take hu)
  have hcs : ∀ (j : Nat) (u : Value), ((us.drop off).take r.cks.length)[j]? = some u → w.cell? ⟨b, o + off + j, none⟩ = some u := by
    intro j u hu
    rw [List.getElem?_take] at hu
    split at hu
    · rw [List.getElem?_drop] at hu
      rw [Nat.add_assoc]; exact hc _ u hu
    · cases hu
  unfold Row.join at hj
  cases ha : r.agg with
  | true =>
    rw [ha] at hj
    dsimp only at hj
    split at hj
    case isFalse => cases hj
    rename_i hlen
    cases hj
    refine ⟨.agg ((us.drop off).take r.cks.length).toArray, load_whole hrow ha (by rw [← LsR_len h2, Nat.eq_of_beq_eq_true hlen]) hcs, ⟨_, rfl, h2⟩, rfl, rfl, ?_⟩
    show (((toCells ty x).drop off).take r.cks.length).flatMap refs2 = []
    rw [List.flatMap_eq_nil_iff]
    intro u hu
    have hr := (hnr ty x u (hsub u hu)).1
    cases u
    case agg cs => rfl
    case tup cs => rfl
    all_goals exact hr
  | false =>
    rw [ha] at hj
    cases hl : ((toCells ty x).drop off).take r.cks.length with
    | nil => rw [hl] at hj; cases hj
    | cons u l =>
      rw [hl] at hj h2
      cases l with
      | cons _ _ => cases hj
      | nil =>
        cases hj
        cases hx : (us.drop off).take r.cks.length with
        | nil => rw [hx] at h2; exact h2.elim
        | cons y ys =>
          rw [hx] at h2 hcs
          obtain ⟨Ga, Gb, e3, h3, h4⟩ := h2
          have e4 : Ga = [] := (List.append_eq_nil_iff.1 e3.symm).1
          subst e4
          obtain ⟨k1, k2, k3⟩ := hnr ty x v (hsub v (by rw [hl]; simp))
          exact ⟨y, load_flat hrow ha (hcs 0 y rfl), VR_of_CR h3, k2, k3, k1⟩
theorem plainAt_cell {C : CallR} {g : Key → V} {k : Option Key} {v u : V} {rs : List Key} {ws : WS} (hc : isCell v = true) (hk : keys1 v = []) (h : Run C g (plainAt k v) rs (u, ws)) : isCell u = true := by
  cases v
  case undef => exact h.fail_inv.elim
  case skip => exact h.fail_inv.elim
  case dead => exact h.fail_inv.elim
  case ep => cases hk
  case alias => cases hk
  case agg => cases hc
  case tup => cases hc
  case list t xs o =>
    cases o with
    | own s f => cases s <;> cases k <;> first | exact h.fail_inv.elim | (obtain ⟨e, _⟩ := h.ret_inv; cases e; rfl)
    | no => obtain ⟨e, _⟩ := h.ret_inv; cases e; rfl
    | nil => obtain ⟨e, _⟩ := h.ret_inv; cases e; rfl
  all_goals (obtain ⟨e, _⟩ := h.ret_inv; cases e; rfl)
theorem moveAt_cell {C : CallR} {g : Key → V} {k : Option Key} {v u : V} {rs : List Key} {ws : WS} (hc : isCell v = true) (hk : keys1 v = []) (h : Run C g (moveAt k v) rs (u, ws)) : isCell u = true := by
  cases v
  case agg => cases hc
  case tup => cases hc
  case list t xs o =>
    cases o with
    | own s f => cases k <;> first | exact h.fail_inv.elim | (obtain ⟨e, _⟩ := h.ret_inv; cases e; rfl)
    | no => exact plainAt_cell (k := k) hc hk h
    | nil => exact plainAt_cell (k := k) hc hk h
  all_goals exact plainAt_cell (k := k) hc hk h
section
variable {P : Program} {B : Bs} {X X' : List Nat} {g : Key → V} {n : Nat} {a : Act} {w : World} {M : Mem} {ι : Nat → Nat} {Gs : Key → List Nat} {C : CallR}
/-- a run of cells of a box, to keep -/
theorem rdCells_sound {α : Type} {mv : Bool} {b : Nat} : ∀ (m : Nat) {j : Nat} {k : List V → WS → RM α} {rs : List Key} {ws : α} {g : Key → V} {M : Mem} {Gs : Key → List Nat} {X : List Nat} (hs : Sim B X g n a w M ι Gs) (hr : Run C g (rdCells mv b j m k) rs ws),
    ∃ us xs ws1 M' Gs' Gn rs', Sim B (Gn ++ X) (gputs g ws1) n a w M' ι Gs' ∧ Mle M M' ∧ Run C (gputs g ws1) (k us ws1) rs' ws ∧ us.length = m ∧ LsR (CR ⟨M', fun k => w.heap[k]?, ι, fun _ => none⟩) us xs Gn ∧ Gn.Nodup ∧ (∀ y ∈ Gn, y ∉ X) ∧
      (∀ (i : Nat) (x : Value), xs[i]? = some x → w.cell? ⟨ι b, j + i, none⟩ = some x) ∧ (∀ u ∈ us, ∀ c ∈ u.refs, live g c) ∧ (∀ u ∈ us, isUndef u = false) ∧ (∀ k, isUndef (gputs g ws1 k) = isUndef (g k)) ∧ ∀ y ∈ X, ∀ o, M' y o = M y o
  | 0, j, k, rs, ws, g, M, Gs, X, hs, hr => ⟨[], [], [], M, Gs, [], rs, hs, Mle.refl _, hr, rfl, rfl, List.nodup_nil, (fun y hy => by cases hy), (fun i x h => by simp at h), (fun u hu => by cases hu), (fun u hu => by cases hu), fun _ => rfl, fun _ _ _ => rfl⟩
  | m + 1, j, k, rs, ws, g, M, Gs, X, hs, hr => by
    replace hr := hr.rd_inv; obtain ⟨_, _, hr⟩ := hr
    replace hr := hr.bind_inv; obtain ⟨_, _, ⟨u, wsA⟩, _, h2, hr⟩ := hr
    have hr := hr.over_inv
    have hund : isUndef (g (.c b j)) = false := by
      cases hu : isUndef (g (.c b j)) with
      | false => rfl
      | true => rw [isUndef_eq hu] at h2; cases mv <;> exact h2.fail_inv.elim
    obtain ⟨y, hy, hVy, hcl⟩ := hs.at hund
    obtain ⟨c1, c2⟩ := hcl ⟨b, j, rfl⟩
    have hkk : ∀ q, some (Key.c b j) = some q → g q = g (.c b j) ∧ valAt a (fun k => w.heap[k]?) ι q = some y ∧ Gs q = Gs (.c b j) := fun q hq => by cases hq; exact ⟨rfl, hy, rfl⟩
    have hget : Gets B X g n a w M ι Gs wsA u y ∧ isCell u = true := by
      cases mv
      · exact ⟨⟨[], plainAt_sound hs hkk hVy (hs.nodup _) (hs.refs _) h2⟩, plainAt_cell c1 c2 h2⟩
      · exact ⟨moveAt_sound hs hkk hVy (hs.nodup _) (hs.refs _) h2, moveAt_cell c1 c2 h2⟩
    obtain ⟨⟨Gn1, M1, Gs1, h3, h4, h5, h6, h7, h8, h9, h10, h11, h12, h13⟩, hcu⟩ := hget
    obtain ⟨us, xs, ws2, M2, Gs2, Gn2, rs', i1, i2, i3, i4, i5, i6, i7, i8, i9, i10, i11, i12⟩ := rdCells_sound m h3 hr
    rw [← gputs_append] at i1 i3 i11
    have hX1 : ∀ y ∈ X, ∀ o, M1 y o = M y o := fun y hy o => Classical.byContradiction fun e => by
      obtain ⟨k, hk⟩ := h6 y o e
      exact (hs.spare y hy).2.1 k hk
    refine ⟨u :: us, y :: xs, wsA ++ ws2, M2, Gs2, Gn1 ++ Gn2, rs', i1.less (fun z hz => ?_), h5.trans i2, i3, by simp [i4], ⟨Gn1, Gn2, rfl, ?_, i5⟩, ?_, ?_, ?_, ?_, ?_, fun k => (i11 k).trans (h13 k), fun z hz o => (i12 z (List.mem_append_right _ hz) o).trans (hX1 z hz o)⟩
    · rcases List.mem_append.1 hz with h | h
      · rcases List.mem_append.1 h with h | h
        · exact List.mem_append_right _ (List.mem_append_left _ h)
        · exact List.mem_append_left _ h
      · exact List.mem_append_right _ (List.mem_append_right _ h)
    · exact CR_wide i2 (fun g' hg' o => i12 g' (List.mem_append_left _ hg') o) (CR_of_VR hcu h9 (h4 _))
    · refine List.nodup_append.2 ⟨h7, i6, fun z hz z' hz' e => i7 z' hz' (List.mem_append_left _ (e ▸ hz))⟩
    · intro z hz
      rcases List.mem_append.1 hz with h | h
      · obtain ⟨k, hk⟩ := h8 z h
        exact fun hx => (hs.spare z hx).2.1 k hk
      · exact fun hx => i7 z h (List.mem_append_right _ hx)
    · intro i x hx
      cases i with
      | zero =>
        simp at hx; subst hx
        exact hcell_cell (by unfold hcell; unfold valAt at hy; exact hy)
      | succ i =>
        rw [show j + (i + 1) = j + 1 + i by omega]
        exact i8 i x (by simpa using hx)
    · intro v hv c hc
      rcases List.mem_cons.1 hv with e | e
      · subst e; exact h12 c hc
      · have := i9 v e c hc
        unfold live at this ⊢; rw [← h13]; exact this
    · intro v hv
      rcases List.mem_cons.1 hv with e | e
      · subst e; exact h11
      · exact i10 v e
variable {cfg : Cfg} {fu : FuncId} {o : Oper} {rs : List Key} {ws : WS} (hT : tabOk P cfg.tab cfg.tab = true) (hs : Sim B [] g n a w M ι Gs) (hd : inRange n o.dst = true) (hr : Run C g (evOp cfg fu o) rs ws) (Q : Exit → Act → World → Prop)
include hs hd hr
include hT in
theorem load_sound {t : TypeId} {x : Operand} (ho : o.op = .load t x) : o.wp P a w (Good B (gputs g ws) n) Q := by
  have hr : ∃ (mv kp : Bool) (rs' : List Key), Run C g ((opnd x).bind fun p => RM.opt (rowAt cfg.tab t) fun r => match p with
      | .ref b off => match r.agg with
          | true => rdCells mv b off r.cks.length fun cs ws => .ret (ws ++ dstW o.dst (.agg cs))
          | false => .rd (.c b off) fun v => match mv, kp, v with
            | false, false, .list _ _ (.own _ _) => .ret (dstW o.dst (.alias (.c b off)))
            | true, _, v => (moveAt (some (.c b off)) v).bind fun u => .ret (u.2 ++ dstW o.dst u.1)
            | false, _, v => (plainAt (some (.c b off)) v).bind fun u => .ret (u.2 ++ dstW o.dst u.1)
      | .elt ty x off => RM.opt (r.join (((toCells ty x).drop off).take r.cks.length)) fun v => .ret (dstW o.dst v)
      | .ep k ty i off => .rd k fun u => match u with
          | .list t' xs (.own false false) => match Ty.eq? t' ty with
            | some h => RM.guard (decide (i < xs.length)) (RM.opt (r.join (((toCells ty ((castL h.down xs).getD i ty.zero)).drop off).take r.cks.length)) fun v => .ret (dstW o.dst v))
            | none => .fail
          | _ => .fail
      | _ => .fail) rs' ws := by
    refine ⟨feeds (cfg.mv fu) o.dst, feeds (cfg.keep fu) o.dst, rs, ?_⟩
    simp only [evOp, ho] at hr; exact hr
  obtain ⟨mv, kp, _, hr⟩ := hr
  replace hr := hr.bind_inv; obtain ⟨_, _, p, _, h1, hr⟩ := hr
  obtain ⟨G0, hV, hn, hrf, hk⟩ := opnd_sound hs h1
  replace hr := hr.opt_inv; obtain ⟨r, hrow, hr⟩ := hr
  have hR := rowOk_of hT hrow
  cases p
  case ref b off =>
    have hx : a.eval x = .pointer (some ⟨ι b, off, none⟩) := hV.1
    cases ha : r.agg with
    | true =>
      rw [ha] at hr
      obtain ⟨us, xs, ws1, M', Gs', Gn, rs', hs1, hm, hrun, hl, hls, hnd, hX, hc, hrf', hun, hu, _⟩ := rdCells_sound r.cks.length hs hr
      obtain ⟨e, _⟩ := hrun.ret_inv; subst e
      rw [gputs_dst]
      refine hs1.value (u := .agg us) (x := .agg xs.toArray) hd ?_ ⟨xs, rfl, LsR_mono (fun v _ x G' _ k => CR_any k) hls⟩ rfl (fun c hc => ?_) (fun y hy => List.mem_append_left _ hy) hnd rfl Q
      · simp only [execOp, ho, hx]
        rw [Sem.run_bind, load_whole hR ha (by rw [← LsR_len hls, hl]) hc]; simp
      · obtain ⟨u, hu', hc⟩ := List.mem_flatMap.1 hc
        obtain ⟨_, _, hcr⟩ := LsR_mem hls u hu'
        have := hrf' u hu' c (by rw [CR_refs hcr]; exact hc)
        unfold live at this ⊢; rw [hu]; exact this
    | false =>
      rw [ha] at hr
      replace hr := hr.rd_inv; obtain ⟨_, _, hr⟩ := hr
      have hload : ∀ y, valAt a (fun k => w.heap[k]?) ι (.c b off) = some y → (execOp a.eval o).run P w = .ok (.value y) w := by
        intro y hy
        have hc : w.cell? ⟨ι b, off, none⟩ = some y := hcell_cell (by
          unfold hcell; unfold valAt at hy; exact hy)
        simp only [execOp, ho, hx]
        rw [Sem.run_bind, load_flat hR ha hc]; simp
      have hund : isUndef (g (.c b off)) = false := by
        cases hu : isUndef (g (.c b off)) with
        | false => rfl
        | true =>
          have e := isUndef_eq hu
          rw [e] at hr
          cases mv
          · have h2 : ∃ r', Run C g ((plainAt (some (Key.c b off)) V.undef).bind fun u => .ret (u.2 ++ dstW o.dst u.1)) r' ws := by cases kp <;> exact ⟨_, hr⟩
            obtain ⟨_, h2⟩ := h2
            replace h2 := h2.bind_inv; obtain ⟨_, _, _, _, h3, _⟩ := h2
            exact h3.fail_inv.elim
          · have h2 : ∃ r', Run C g ((moveAt (some (Key.c b off)) V.undef).bind fun u => .ret (u.2 ++ dstW o.dst u.1)) r' ws := ⟨_, hr⟩
            obtain ⟨_, h2⟩ := h2
            replace h2 := h2.bind_inv; obtain ⟨_, _, _, _, h3, _⟩ := h2
            exact h3.fail_inv.elim
      obtain ⟨y, hy, hVy, _⟩ := hs.at hund
      have hkk : ∀ q, some (Key.c b off) = some q → g q = g (.c b off) ∧ valAt a (fun k => w.heap[k]?) ι q = some y ∧ Gs q = Gs (.c b off) := fun q hq => by cases hq; exact ⟨rfl, hy, rfl⟩
      split at hr
      · obtain ⟨e, _⟩ := hr.ret_inv; subst e
        refine hs.val0 (.alias (.c b off)) y hd ⟨fun v' hv => ?_, rfl⟩ (hload y hy) rfl (fun b hb => by cases hb) rfl Q
        simp only [enOf, oldAt] at hv
        split at hv
        · rw [hy] at hv; cases hv; rfl
        · cases hv
      · replace hr := hr.bind_inv; obtain ⟨_, _, u, _, h2, hr⟩ := hr
        obtain ⟨e, _⟩ := hr.ret_inv; subst e
        exact (moveAt_sound hs hkk hVy (hs.nodup _) (hs.refs _) h2).put hd (hload y hy) Q
      · replace hr := hr.bind_inv; obtain ⟨_, _, u, _, h2, hr⟩ := hr
        obtain ⟨e, _⟩ := hr.ret_inv; subst e
        exact Gets.put ⟨[], plainAt_sound hs hkk hVy (hs.nodup _) (hs.refs _) h2⟩ hd (hload y hy) Q
  case elt ty y off =>
    replace hr := hr.opt_inv; obtain ⟨v, hj, hr⟩ := hr
    obtain ⟨e, _⟩ := hr.ret_inv; subst e
    obtain ⟨⟨b, o', us, hx, h2, h3⟩, _⟩ := hV
    obtain ⟨z, hz, hvz, q1, q2, q3⟩ := elt_load (P := P) (w := w) hR (E := enOf g a (fun k => w.heap[k]?) M ι) h2 hj (fun j u hu => hs.stable _ _ _ (h3 j u hu))
    refine hs.val0 v z hd hvz ?_ q1 (fun b hb => by rw [q3] at hb; cases hb) q2 Q
    simp only [execOp, ho, hx]
    rw [Sem.run_bind, hz]; simp
  case ep q ty i off =>
    replace hr := hr.rd_inv; obtain ⟨_, _, hr⟩ := hr
    split at hr
    · rename_i t' xs hq
      split at hr
      · rename_i h _
        obtain ⟨h⟩ := h
        subst h
        obtain ⟨hg, hr⟩ := hr.guard_inv
        obtain ⟨v, hj, hr⟩ := hr.opt_inv
        obtain ⟨e, _⟩ := hr.ret_inv; subst e
        have hi : i < xs.length := of_decide_eq_true hg
        obtain ⟨v', h5, h6, _⟩ := hs.at (k := q) (by rw [hq]; rfl)
        obtain ⟨b, o', m, c, hv', _, hx⟩ := hV.1 v' (by simp only [enOf, oldAt]; rw [if_pos (by rw [hq]; rfl)]; exact h5)
        rw [hq] at h6
        obtain ⟨us, hrows, hl, ad, cp, hsl, _, hor⟩ := reads_own (M := M) hs.stable (show ownR M (fun k => w.heap[k]?) t' xs false v' (Gs q) from h6)
        obtain ⟨ui, hd1, hd2⟩ := rowsR_at hrows (i := i) (x := xs[i]) (List.getElem?_eq_getElem hi)
        have hget : (castL rfl xs).getD i t'.zero = xs[i] := by
          show xs.getD i t'.zero = xs[i]
          rw [List.getD_eq_getElem?_getD, List.getElem?_eq_getElem hi]; rfl
        rw [hget] at hj
        obtain ⟨z, hz, hvz, q1, q2, q3⟩ := elt_load (P := P) (w := w) hR (E := enOf g a (fun k => w.heap[k]?) M ι) hd1 hj (b := b) (o := o' + i * t'.size) (fun j u hu => by
          have h7 := hd2 j u hu
          rcases hor with h8 | ⟨b', o'', h8, h9⟩
          · rw [h8] at h7; cases h7
          · rw [hsl, h8] at hv'; cases hv'
            have := h9 _ u h7
            rwa [← Nat.add_assoc] at this)
        refine hs.val0 v z hd hvz ?_ q1 (fun b hb => by rw [q3] at hb; cases hb) q2 Q
        simp only [execOp, ho, hx]
        rw [Sem.run_bind, hz]; simp
      · exact hr.fail_inv.elim
    · exact hr.fail_inv.elim
  all_goals exact hr.fail_inv.elim
end
end Go.Proofs.Ytkfphlmbdppbfaa.Vm
