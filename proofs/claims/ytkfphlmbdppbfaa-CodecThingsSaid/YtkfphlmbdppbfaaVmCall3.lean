/- The machine's operations are the model's: calls, and all of them. No condition. -/
import Derived.Test.YtkfphlmbdppbfaaVmCall2
namespace Go.Proofs.Ytkfphlmbdppbfaa.Vm
open Go Go.RowKit
set_option linter.unusedVariables false
set_option linter.unusedSimpArgs false
/-- the functions that are taken to hand back a slice's elements do so -/
def CloneOk (P : Program) (cfg : Cfg) : Prop := ∀ f z, cfg.clone f = z + 1 → (∀ vals w, (callFunc f vals).run P w = .ok (.enter f vals) w) ∧
  ∀ (w : World) (v : Value) (n : Nat) (xs : List Value), Reads w (z + 1) v n xs → (∀ u ∈ xs, u.oneCell' = true) → n ≤ 1000000 →
    Calls P f #[v] w fun e w' => ∃ v' e', e = .returned v' ∧ View w' w.heap.size e' (z + 1) v' n xs ∧ Fr [] w w'
theorem CR_noL {E : En} {v : V} {x : Value} (h : CR E v x []) : CR E (noL v) x [] := by
  cases v <;> try exact h
  rename_i t xs o
  exact ⟨lstR_of (old := E.old) (VR_of_CR h), rfl⟩
theorem LsR_nil {R R' : V → Value → List Nat → Prop} (f : V → V) (hf : ∀ v x, R v x [] → R' (f v) x []) : ∀ {vs : List V} {xs : List Value}, LsR R vs xs [] → LsR R' (vs.map f) xs []
  | [], [], h => h
  | v :: vs, x :: xs, ⟨G1, G2, e, h1, h2⟩ => by
    have e1 : G1 = [] := (List.append_eq_nil_iff.1 e.symm).1
    have e2 : G2 = [] := (List.append_eq_nil_iff.1 e.symm).2
    subst e1 e2
    exact ⟨[], [], rfl, hf v x h1, LsR_nil f hf h2⟩
  | [], _ :: _, h => h.elim
  | _ :: _, [], h => h.elim
theorem VR_arg {E : En} {v : V} {x : Value} (h : VR E v x []) : VR E v.arg x [] := by
  cases v <;> try exact h
  case list t xs o => exact ⟨lstR_of (old := E.old) h, rfl⟩
  case agg cs => obtain ⟨vals, h1, h2⟩ := h; exact ⟨vals, h1, LsR_nil noL (fun v x h => CR_noL h) h2⟩
theorem keys_arg (v : V) : keys1 v.arg = keys1 v := by cases v <;> rfl
theorem refs_arg (v : V) : v.arg.refs = v.refs := by
  cases v
  case agg cs => exact flatMap_map_eq noL refs2 refs2_no cs
  all_goals rfl
theorem fitArg_cases (r : Row) (v : V) : (∃ cs, v = .agg cs ∧ fitArg r v = .agg (fits r.cks cs)) ∨ (∃ c, fitArg r v = fit c v) ∨ fitArg r v = v := by
  unfold fitArg
  split
  · exact .inl ⟨_, rfl, rfl⟩
  · exact .inr (.inl ⟨_, rfl⟩)
  · exact .inr (.inr rfl)
theorem VR_fitArg {E : En} {r : Row} {v : V} {x : Value} (h : VR E v x []) : VR E (fitArg r v) x [] := by
  rcases fitArg_cases r v with ⟨cs, e1, e2⟩ | ⟨c, e⟩ | e
  · rw [e2]; subst e1; obtain ⟨vals, h1, h2⟩ := h; exact ⟨vals, h1, fits_LsR _ h2⟩
  · rw [e]; exact fit_VR h
  · rw [e]; exact h
theorem fitArg_facts {r : Row} {v : V} (hk : keys1 v = []) : keys1 (fitArg r v) = [] ∧ ∀ b ∈ (fitArg r v).refs, b ∈ v.refs := by
  rcases fitArg_cases r v with ⟨cs, e1, e2⟩ | ⟨c, e⟩ | e
  · rw [e2]; subst e1
    refine ⟨rfl, fun b hb => ?_⟩
    obtain ⟨u, hu, hb⟩ := List.mem_flatMap.1 hb
    obtain ⟨u0, h1, h2⟩ := fits_refs r.cks cs u hu
    exact List.mem_flatMap.2 ⟨u0, h1, h2 b hb⟩
  · rw [e]
    rcases fit_ne (c := c) (v := v) with e | ⟨_, t, e⟩
    · rw [e]; exact ⟨hk, fun b hb => hb⟩
    · rw [e]; exact ⟨rfl, fun b hb => by cases hb⟩
  · rw [e]; exact ⟨hk, fun b hb => hb⟩
section
variable {P : Program} {B : Bs} {X X' : List Nat} {g : Key → V} {n : Nat} {a : Act} {w : World} {M : Mem} {ι : Nat → Nat} {Gs : Key → List Nat} {C : CallR}
theorem fitArgs_LsR (tab : List Row) : ∀ {ts : List TypeId} {us : List V} {xs : List Value}, Kepts g w M ι us xs → xs.length = ts.length → LsR (VR ⟨M, fun k => w.heap[k]?, ι, fun _ => none⟩) (fitArgs tab ts us) xs [] ∧
    ∀ v ∈ fitArgs tab ts us, keys1 v = [] ∧ ∀ b ∈ v.refs, live g b
  | [], [], [], _, _ => ⟨rfl, fun v hv => by simp [fitArgs] at hv⟩
  | t :: ts, u :: us, x :: xs, ⟨h1, h2⟩, hl => by
    obtain ⟨i1, i2⟩ := fitArgs_LsR tab (ts := ts) h2 (by simpa using hl)
    obtain ⟨k1, k2⟩ := fitArg_facts (r := rowOf tab t) h1.2.1
    refine ⟨⟨[], [], rfl, VR_arg (VR_fitArg (h1.1 _)), i1⟩, fun v hv => ?_⟩
    rcases List.mem_cons.1 (show v ∈ (fitArg (rowOf tab t) u).arg :: fitArgs tab ts us from hv) with e | e
    · subst e
      exact ⟨by rw [keys_arg]; exact k1, fun b hb => by rw [refs_arg] at hb; exact h1.2.2.2.2 b (k2 b hb)⟩
    · exact i2 v e
  | [], _ :: _, _ :: _, _, h => by simp at h
  | _ :: _, [], [], _, h => by simp at h
  | _, [], _ :: _, h, _ => h.elim
  | _, _ :: _, [], h, _ => h.elim
theorem LR_CR {E : En} {v : V} {x : Value} {G : List Nat} (h : LR E v x G) : CR E v x G := by
  cases v
  case fn => exact h.elim
  all_goals exact h
theorem LR_facts {E : En} {v : V} {x : Value} {G : List Nat} (h : LR E v x G) : keys1 v = [] ∧ v.refs = refs1 v := by
  cases v
  case fn => exact h.elim
  case agg => exact h.elim
  case tup => exact h.elim
  case alias => exact h.elim
  case ep => exact h.elim
  all_goals exact ⟨rfl, rfl⟩
variable {cfg : Cfg} {fu : FuncId} {o : Oper} {rs : List Key} {ws : WS} (hT : tabOk P cfg.tab cfg.tab = true) (hC : CallOk P C) (hL : CloneOk P cfg) (hs : Sim B [] g n a w M ι Gs) (hd : inRange n o.dst = true) (hr : Run C g (evOp cfg fu o) rs ws) (Q : Exit → Act → World → Prop)
include hs hd hr
include hC hL in
theorem call_sound {c : Call} {g0 : Operand} (ho : o.op = .call c) (hc : c.callee = .value g0) : o.wp P a w (Good B (gputs g ws) n) Q := by
  simp only [evOp, ho, hc] at hr
  replace hr := hr.bind_inv; obtain ⟨_, _, v, _, h1, hr⟩ := hr
  obtain ⟨G0, hV, hn, hrf, hk⟩ := opnd_sound hs h1
  cases v
  case fn f cap =>
    obtain ⟨⟨cv, hf, hcap⟩, _⟩ := hV
    have hcr : ∀ v ∈ cap, ∀ b ∈ refs1 v, live g b := fun v hv b hb => hrf b (List.mem_flatMap.2 ⟨v, hv, hb⟩)
    have hex : ∀ {xs : List Value}, (∀ vals w, (callFunc f vals).run P w = .ok (.enter f vals) w) → c.args.toList.map a.eval = xs → (execOp a.eval o).run P w = .ok (.enter f (xs ++ cv).toArray) w := by
      intro xs hcf hxs
      have hx : c.args.map a.eval = xs.toArray := by apply Array.ext'; simp [← hxs]
      simp [execOp, ho, resolve, hc, Deferred.ofValue, hf, invoke, hcf, hx]
    have hr : ∃ rs', Run C g (match cfg.clone f with
        | z + 1 => looks c.args.toList fun vs => match fitArgs cfg.tab c.argTypes.toList vs, cap with
          | [.list ty xs _], [] => RM.guard (Nat.beq ty.size (z + 1) && (Nat.beq c.args.toList.length 1 && decide (xs.length ≤ 1000000))) (.ret (dstW o.dst (.list ty xs (.own false true))))
          | _, _ => .fail
        | 0 => RM.guard (Nat.beq c.args.toList.length c.argTypes.toList.length) (plains c.args.toList fun vs ws => callOp o.dst f (fitArgs cfg.tab c.argTypes.toList vs ++ cap) ws)) rs' ws := ⟨_, hr⟩
    obtain ⟨_, hr⟩ := hr
    cases hz : cfg.clone f with
    | succ z =>
      rw [hz] at hr
      dsimp only at hr
      replace hr := looks_sound hs c.args.toList hr
      obtain ⟨us, rs', hr, hul, hlk⟩ := hr
      obtain ⟨hcf, hcl⟩ := hL f z hz
      split at hr
      case h_2 => exact hr.fail_inv.elim
      rename_i ty xs ow hfit _
      replace hr := hr.guard_inv; obtain ⟨hg, hr⟩ := hr
      simp only [Bool.and_eq_true, decide_eq_true_eq] at hg
      obtain ⟨g1, g2, g3⟩ := hg
      have g1 := Nat.eq_of_beq_eq_true g1
      have g2 := Nat.eq_of_beq_eq_true g2
      replace hr := hr.ret_inv; obtain ⟨e, _⟩ := hr; subst e
      have hcv : cv = [] := by cases cv with
        | nil => rfl
        | cons _ _ => exact hcap.elim
      subst hcv
      cases hal : c.args.toList with
      | nil => rw [hal] at g2; cases g2
      | cons x l =>
        cases l with
        | cons _ _ => rw [hal] at g2; simp at g2
        | nil =>
          rw [hal] at hul hlk
          cases us with
          | nil => simp at hul
          | cons u l =>
            cases l with
            | cons _ _ => simp at hul
            | nil =>
              have hlu := hlk 0 u x rfl rfl
              have hrd : ∃ cells, rowsR M ty xs cells ∧ Reads w ty.size (a.eval x) xs.length cells := by
                cases hat : c.argTypes.toList with
                | nil => rw [hat] at hfit; cases hfit
                | cons t ts =>
                  rw [hat] at hfit
                  have h2 : (fitArg (rowOf cfg.tab t) u).arg = .list ty xs ow := by
                    have : fitArgs cfg.tab (t :: ts) [u] = [(fitArg (rowOf cfg.tab t) u).arg] := by
                      show (fitArg (rowOf cfg.tab t) u).arg :: fitArgs cfg.tab ts [] = _
                      cases ts <;> rfl
                    rw [this] at hfit
                    exact (List.cons.inj hfit).1
                  have h3 : (∃ o', u = .list ty xs o') ∨ (u = .nils ∧ xs = []) := by
                    have h4 : ∃ o', fitArg (rowOf cfg.tab t) u = .list ty xs o' := by
                      revert h2
                      cases fitArg (rowOf cfg.tab t) u <;> intro h2 <;> first | (cases h2; exact ⟨_, rfl⟩) | cases h2
                    obtain ⟨o', h4⟩ := h4
                    rcases fitArg_cases (rowOf cfg.tab t) u with ⟨cs, e1, e2⟩ | ⟨c', e⟩ | e
                    · rw [e2] at h4; cases h4
                    · rw [e] at h4
                      rcases fit_ne (c := c') (v := u) with e | ⟨e0, t', e⟩
                      · rw [e] at h4; exact .inl ⟨o', h4⟩
                      · rw [e] at h4; cases h4; exact .inr ⟨e0, rfl⟩
                    · rw [e] at h4; exact .inl ⟨o', h4⟩
                  rcases h3 with ⟨o', h3⟩ | ⟨h3, h4⟩
                  · rw [h3] at hlu; exact hlu.list
                  · rw [h3] at hlu
                    subst h4
                    rw [hlu.nils]
                    exact ⟨[], rfl, Reads.nil w _⟩
              obtain ⟨cells, hrows, hrd⟩ := hrd
              have hcalls := hcl w (a.eval x) xs.length cells (by rw [← g1]; exact hrd) (rowsR_one hrows) g3
              have hexe := hex (xs := [a.eval x]) hcf (by rw [hal]; rfl)
              unfold Oper.wp
              rw [hexe, Oper.upon_enter]
              refine Calls.mono hcalls fun e w' he => ?_
              obtain ⟨v', e', rfl, hvw, hfr⟩ := he
              show Good B _ n (a.put o.dst v') w'
              have hs1 := hs.world (w' := w') (M' := M) (L := []) (X' := (List.range w'.heap.size).filter fun b => decide (w.heap.size ≤ b)) hfr (fun x hx => by cases hx) (fun b _ h => by cases h) (Mle.refl _) (fun b o e => absurd rfl e)
                (fun b o v hv => hfr.cell (hs.stable b o v hv) (fun h => by cases h)) (fun y hy => by
                  obtain ⟨h1, h2⟩ := List.mem_filter.1 hy
                  exact .inr ⟨by simpa using h2, List.mem_range.1 h1⟩)
              have hown : ∃ G', ownR M (fun k => w'.heap[k]?) ty xs false v' G' ∧ G'.Nodup ∧ ∀ y ∈ G', w.heap.size ≤ y ∧ y < w'.heap.size := by
                obtain ⟨hl, ⟨h1, h2⟩ | ⟨gb, off, cap, cs, h1, h2, h3, h4, h5, h6, h7⟩⟩ := hvw
                · refine ⟨[], .inl ⟨rfl, List.eq_nil_of_length_eq_zero h2, h1⟩, List.nodup_nil, fun y hy => by cases hy⟩
                · refine ⟨[gb], .inr (.inr ⟨gb, off, cap, cs, e', cells, rfl, h1, h3, h4, h5, by rw [g1]; exact h6, hrows, by rw [hl]; exact h7, fun h => by (cases h), fun o _ => hs.none_new h2 o⟩), by simp, fun y hy => ?_⟩
                  rw [List.mem_singleton.1 hy]; exact ⟨h2, h3.lt⟩
              obtain ⟨G', hown, hnd, hG'⟩ := hown
              cases hdd : o.dst with
              | none => exact ⟨M, ι, Gs, hs1.less (X' := []) (fun x hx => by cases hx)⟩
              | some d =>
                rw [hdd] at hd
                exact ⟨M, ι, _, hs1.setSlot (V := .list ty xs (.own false true)) (X' := []) (inRange_lt hd) (show ownR M (fun k => w'.heap[k]?) ty xs false v' G' from hown) rfl (fun b hb => by cases hb)
                  (fun y hy => List.mem_filter.2 ⟨List.mem_range.2 (hG' y hy).2, by simpa using (hG' y hy).1⟩) hnd (fun x hx => by cases hx) (fun h => by cases h)⟩
    | zero =>
      rw [hz] at hr
      dsimp only at hr
      replace hr := hr.guard_inv; obtain ⟨hlen, hr⟩ := hr
      have hlen := Nat.eq_of_beq_eq_true hlen
      obtain ⟨us, ws1, M', Gs', rs', hs1, hm, hrun, hks, hun⟩ := plains_sound c.args.toList hs hr
      obtain ⟨k1, k2⟩ := fitArgs_LsR cfg.tab hks (by rw [List.length_map]; exact hlen)
      have hl1 : ∀ b, live g b → live (gputs g ws1) b := fun b hb => by unfold live at hb ⊢; rw [hun]; exact hb
      have hcap' : LsR (VR ⟨M', fun k => w.heap[k]?, ι, fun _ => none⟩) cap cv [] := LsR_mono (fun v hv x G' hG' k => by
        have := LR_CR k
        exact VR_of_CR (CR_wide hm (fun y hy => by cases (hG' y hy)) (CR_any this))) hcap
      obtain ⟨ws2, e, hcf, hcalls⟩ := callOp_sound hC hs1 hd hrun (cells_LsR.LsR_app k1 hcap') (fun v hv => by
        rcases List.mem_append.1 hv with h | h
        · exact (k2 v h).1
        · obtain ⟨x, G', hx⟩ := LsR_mem hcap v h
          exact (LR_facts hx).1) (fun v hv b hb => by
        rcases List.mem_append.1 hv with h | h
        · exact (k2 v h).2 b hb
        · obtain ⟨x, G', hx⟩ := LsR_mem hcap v h
          rw [(LR_facts hx).2] at hb
          exact hl1 b (hcr v h b hb))
      subst e
      have hexe := hex (xs := c.args.toList.map a.eval) hcf rfl
      unfold Oper.wp
      rw [hexe, Oper.upon_enter, gputs_append]
      refine Calls.mono hcalls fun e w' he => ?_
      obtain ⟨v', rfl, hg⟩ := he
      exact hg
  all_goals exact hr.fail_inv.elim
include hT hC hL in
/-- each operation of the machine is the model's -/
theorem op_sound : o.wp P a w (Good B (gputs g ws) n) Q := by
  cases ho : o.op
  case move x => exact move_sound hs hd hr Q (.inl ho)
  case assign x => exact move_sound hs hd hr Q (.inr ho)
  case pick c x y => exact pick_sound hs hd hr Q ho
  case alloc t => exact alloc_sound hT hs hd hr Q ho
  case box t x => exact box_sound hs hd hr Q ho
  case build t parts => exact build_sound hT hs hd hr Q ho
  case buildSlice t m parts => exact buildSlice_sound hT hs hd hr Q ho
  case load t x => exact load_sound hT hs hd hr Q ho
  case store t x y => exact store_sound hT hs hr Q ho
  case nilCheck x => exact nilCheck_sound hs hd hr Q ho
  case binOp op t x y yt => exact binOp_sound hT hs hd hr Q ho
  case unOp op t x => exact unOp_sound hs hd hr Q ho
  case convert src dst x => exact convert_sound hT hs hd hr Q ho
  case makeFunc fn fs cp => exact makeFunc_sound hs hd hr Q ho
  case makeSlice t l c => exact makeSlice_sound hT hs hd hr Q ho
  case slice t x lo hi mx => exact slice_sound hT hs hd hr Q ho
  case fieldAddr t x f => exact fieldAddr_sound hT hs hd hr Q ho
  case field t x f => exact field_sound hT hs hd hr Q ho
  case indexAddr t x y => exact indexAddr_sound hT hs hd hr Q ho
  case index t x y => exact index_sound hT hs hd hr Q ho
  case extract x i => exact extract_sound hs hd hr Q ho
  case call c =>
    cases hc : c.callee
    case builtin b =>
      cases b
      case append => exact append_sound hT hs hd hr Q ho hc
      case len => exact len_sound hT hs hd hr Q ho hc
      case max => exact max_sound hs hd hr Q ho hc
      case min => exact min_sound hs hd hr Q ho hc
      all_goals (simp only [evOp, ho, hc] at hr; exact hr.fail_inv.elim)
    case value g0 => exact call_sound hC hL hs hd hr Q ho hc
    all_goals (simp only [evOp, ho, hc] at hr; exact hr.fail_inv.elim)
  all_goals (simp only [evOp, ho] at hr; exact hr.fail_inv.elim)
end
end Go.Proofs.Ytkfphlmbdppbfaa.Vm
