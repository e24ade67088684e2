/- The machine's operations are the model's: parts of values. No condition. -/
import Derived.Test.YtkfphlmbdppbfaaVmOps
namespace Go.Proofs.Ytkfphlmbdppbfaa.Vm
open Go Go.RowKit
set_option linter.unusedVariables false
set_option linter.unusedSimpArgs false
theorem fieldAt_run {P : Program} {tab : List Row} (hT : tabOk P tab tab = true) {t : TypeId} {r : Row} {f : Nat} {q : Nat × TypeId} {w : World} (hrow : rowAt tab t = some r) (hq : fieldOf r.sub f = some q) (b o : Nat) :
    (Instr.fieldAt t (.pointer (some ⟨b, o, none⟩)) f).run P w = .ok (.pointer (some ⟨b, o + q.1, none⟩)) w := by
  obtain ⟨d, h1, h2⟩ := (rowOk_of hT hrow).under
  unfold fieldOf at hq
  split at hq
  · rename_i hsub
    cases d <;> simp [descOk, hsub] at h2
    rename_i fields
    obtain ⟨fd, h3, h4, h5, r', h6, h7⟩ := fieldsOk_at h2.2 hq
    obtain ⟨i, h8, h9, _⟩ := (rowOk_of hT h6).info
    rw [Array.getElem?_toList] at h3
    have h10 : i.size ≠ 0 := by rw [h9]; exact fun e => h7 (List.eq_nil_of_length_eq_zero e)
    simp [Instr.fieldAt, run_underlying h1, h3, Instr.sureAddr, fieldPlace, sizeOf, typeInfo, h5, h8, h10, addr_add, h4]
  · cases hq
section
variable {P : Program} {B : Bs} {X X' : List Nat} {g : Key → V} {n : Nat} {a : Act} {w : World} {M : Mem} {ι : Nat → Nat} {Gs : Key → List Nat} {C : CallR}
  {cfg : Cfg} {fu : FuncId} {o : Oper} {rs : List Key} {ws : WS} (hT : tabOk P cfg.tab cfg.tab = true) (hs : Sim B [] g n a w M ι Gs) (hd : inRange n o.dst = true) (hr : Run C g (evOp cfg fu o) rs ws) (Q : Exit → Act → World → Prop)
include hs hd hr
theorem unOp_sound {op : UnOp} {t : TypeId} {x : Operand} (ho : o.op = .unOp op t x) : o.wp P a w (Good B (gputs g ws) n) Q := by
  simp only [evOp, ho] at hr
  replace hr := hr.bind_inv; obtain ⟨_, _, u, _, h1, hr⟩ := hr
  obtain ⟨G0, hV, hn, hrf, hk⟩ := opnd_sound hs h1
  replace hr := hr.opt_inv; obtain ⟨r, h3, hr⟩ := hr
  obtain ⟨e, _⟩ := hr.ret_inv; subst e
  unfold unV at h3
  split at h3
  · cases h3
    have hx : a.eval x = _ := hV.1
    exact hs.leaf hd rfl (by simp only [execOp, ho, hx, Op.unary]; simp [Op.intArith]) Q
  · cases h3
    have hx : a.eval x = _ := hV.1
    exact hs.leaf hd rfl (by simp [execOp, ho, hx, Op.unary]) Q
  · cases h3
theorem nilCheck_sound {x : Operand} (ho : o.op = .nilCheck x) : o.wp P a w (Good B (gputs g ws) n) Q := by
  simp only [evOp, ho] at hr
  replace hr := hr.bind_inv; obtain ⟨_, _, u, _, h1, hr⟩ := hr
  obtain ⟨G0, hV, hn, hrf, hk⟩ := opnd_sound hs h1
  split at hr
  · rename_i b off
    obtain ⟨e, _⟩ := hr.ret_inv; subst e
    have hx : a.eval x = _ := hV.1
    exact hs.val0 (.ref b off) _ hd ⟨rfl, rfl⟩ (by simp only [execOp, ho, hx]; simp) rfl hrf rfl Q
  · rename_i t y off
    obtain ⟨e, _⟩ := hr.ret_inv; subst e
    obtain ⟨⟨b, o', us, hx, h2, h3⟩, _⟩ := id hV
    exact hs.val0 (.elt t y off) (.pointer (some ⟨b, o' + off, none⟩)) hd ⟨⟨b, o', us, rfl, h2, h3⟩, rfl⟩ (by simp only [execOp, ho, hx]; simp) rfl hrf rfl Q
  · rename_i k t i off
    replace hr := hr.rd_inv; obtain ⟨_, _, hr⟩ := hr
    split at hr
    · rename_i hold
      obtain ⟨e, _⟩ := hr.ret_inv; subst e
      obtain ⟨v', h2, _, _⟩ := hs.at (k := k) (by revert hold; cases g k <;> first | exact fun _ => rfl | exact fun h => nomatch h)
      obtain ⟨b, o', m, c, _, h3, hx⟩ := hV.1 v' (by simp only [enOf, oldAt]; rw [if_pos hold]; exact h2)
      exact hs.val0 (.ep k t i off) (.pointer (some ⟨b, o' + i * t.size + off, none⟩)) hd ⟨fun v' hv => by rw [← hx]; exact hV.1 v' hv, rfl⟩ (by simp only [execOp, ho, hx]; simp) rfl hrf rfl Q
    · exact hr.fail_inv.elim
  · rename_i f cap
    obtain ⟨e, _⟩ := hr.ret_inv; subst e
    obtain ⟨⟨vals, hx, h2⟩, _⟩ := id hV
    exact hs.val0 (.fn f cap) (.func (.func f) #[] vals.toArray) hd ⟨⟨vals, rfl, h2⟩, rfl⟩ (by simp only [execOp, ho, hx]; simp) rfl hrf rfl Q
  · exact hr.fail_inv.elim
omit hr hs hd in
theorem old_undef {v : V} (h : isOld v = true) : isUndef v = false := by revert h; cases v <;> first | exact fun _ => rfl | exact fun h => nomatch h
omit hr hs hd in
theorem LsR_pull {R : V → Value → List Nat → Prop} (hR : ∀ x, R .dead x []) : ∀ {vs : List V} {xs : List Value} {G : List Nat} {i : Nat}, LsR R vs xs G → i < vs.length →
    ∃ G1 G2 G3 y, G = G1 ++ (G2 ++ G3) ∧ xs[i]? = some y ∧ R (nth vs i) y G2 ∧ LsR R (vs.set i .dead) xs (G1 ++ G3)
  | [], _, _, i, h, hi => by simp at hi
  | _ :: _, [], _, _, h, _ => h.elim
  | v :: vs, x :: xs, G, 0, ⟨Ga, Gb, e, h1, h2⟩, _ => ⟨[], Ga, Gb, x, e, rfl, h1, [], Gb, rfl, hR x, h2⟩
  | v :: vs, x :: xs, G, i + 1, ⟨Ga, Gb, e, h1, h2⟩, hi => by
    obtain ⟨G1, G2, G3, y, e', hy, h3, h4⟩ := LsR_pull hR (i := i) h2 (by simpa using hi)
    exact ⟨Ga ++ G1, G2, G3, y, by rw [e, e', List.append_assoc], by simpa using hy, h3, Ga, G1 ++ G3, by rw [List.append_assoc], h1, h4⟩
theorem extract_sound {x : Operand} {i : Nat} (ho : o.op = .extract x i) : o.wp P a w (Good B (gputs g ws) n) Q := by
  simp only [evOp, ho] at hr
  replace hr := hr.bind_inv; obtain ⟨_, _, u, _, h1, hr⟩ := hr
  obtain ⟨G0, hV, hn, hrf, hk⟩ := opnd_sound hs h1
  cases u
  case tup cs =>
    obtain ⟨vals, hx, h2⟩ := id hV
    obtain ⟨hl, f, f0, f1, f2, f3, f4⟩ := LsR_split h2 hn
    have hi : isUndef (nth cs i) = false → i < cs.length := fun h => Nat.lt_of_not_le fun hle => by rw [nth_out cs i hle] at h; cases h
    have hrun : ∀ y, vals[i]? = some y → (execOp a.eval o).run P w = .ok (.value y) w := by
      intro y hy
      simp only [execOp, ho, hx, Instr.extract]
      simp [hy]
    have hplain : ∀ v : V, nth cs i = v → isUndef v = false → isOwn v = false → o.wp P a w (Good B (gputs g (dstW o.dst v)) n) Q := by
      intro v hv hu how
      have hlt := hi (by rw [hv]; exact hu)
      have hy : vals[i]? = some vals[i]! := by
        rw [hl] at hlt; simp [hlt]
      have htr := f1 i v _ (by rw [nth_some cs i hlt, hv]) hy
      have hz := TR_noG how htr
      rw [hz] at htr
      refine hs.val0 v _ hd ?_ (hrun _ hy) ?_ ?_ hu Q
      · cases v <;> first | exact htr | exact htr.1 | exact VR_of_CR htr
      · cases v <;> first | rfl | skip
        rename_i t xs o; cases o <;> first | rfl | cases how
      · intro b hb
        refine hrf b (List.mem_flatMap.2 ⟨v, ?_, ?_⟩)
        · rw [← hv]; exact nth_mem cs i hlt
        · have : v.refs = refs3 v := by cases v <;> first | rfl | exact htr.elim
          rw [← this]; exact hb
    have hr : Run C g (match nth cs i, keyOf x with
        | .undef, _ => .fail
        | .skip, _ => .fail
        | .dead, _ => .fail
        | .list t xs (.own s _), some k => .ret ((k, .tup (cs.set i .dead)) :: dstW o.dst (.list t xs (.own s true)))
        | .list _ _ (.own _ _), none => .fail
        | v, _ => .ret (dstW o.dst v)) _ ws := hr
    generalize hv : nth cs i = v at hr
    cases v
    case undef => exact hr.fail_inv.elim
    case skip => exact hr.fail_inv.elim
    case dead => exact hr.fail_inv.elim
    case list t xs ow =>
      cases ow
      case own s fr =>
        cases hkk : keyOf x with
        | none => rw [hkk] at hr; exact hr.fail_inv.elim
        | some k =>
          rw [hkk] at hr
          obtain ⟨e, _⟩ := hr.ret_inv; subst e
          obtain ⟨hk1, hk2, hk3⟩ := hk k hkk
          have hlt := hi (by rw [hv]; rfl)
          obtain ⟨G1, G2, G3, y, e, hy, h3, h4⟩ := LsR_pull (R := TR _) (fun x => rfl) (i := i) h2 hlt
          rw [hv] at h3
          have hn' := hn
          rw [e] at hn
          obtain ⟨n1, n2, n3⟩ := List.nodup_append.1 hn
          obtain ⟨n4, n5, n6⟩ := List.nodup_append.1 n2
          have hmem : ∀ z, z ∈ G1 ++ G3 → z ∈ Gs k := fun z hz => by
            rw [hk3, e]
            rcases List.mem_append.1 hz with h | h
            · exact List.mem_append_left _ h
            · exact List.mem_append_right _ (List.mem_append_right _ h)
          have hm2 : ∀ z, z ∈ G2 → z ∈ Gs k ∧ z ∉ G1 ++ G3 := fun z hz => by
            refine ⟨by rw [hk3, e]; exact List.mem_append_right _ (List.mem_append_left _ hz), fun h => ?_⟩
            rcases List.mem_append.1 h with h | h
            · exact n3 z h z (List.mem_append_left _ hz) rfl
            · exact n6 z hz z h rfl
          have hset : ∀ b ∈ V.refs (.tup (cs.set i .dead)), b ∈ V.refs (.tup cs) := by
            intro b hb
            obtain ⟨v, hv, hb⟩ := List.mem_flatMap.1 hb
            rcases List.mem_or_eq_of_mem_set hv with h | h
            · exact List.mem_flatMap.2 ⟨v, h, hb⟩
            · rw [h] at hb; cases hb
          have hs2 := hs.relabel (k := k) (V := .tup (cs.set i .dead)) (Gn := G1 ++ G3) (M' := M) (X' := G2) (Mle.refl _) (fun b o e => absurd rfl e) hs.stable
            (fun v hv => by
              rw [hk2] at hv; cases hv
              exact ⟨vals, hx, LsR_mono (fun v _ x G' _ k => TR_mono (⟨Mle.refl _, fun _ _ => ⟨rfl, fun _ => rfl⟩, fun _ _ => rfl⟩ : En.le (enOf g a (fun k => w.heap[k]?) M ι) ⟨M, fun k => w.heap[k]?, ι, fun _ => none⟩ (refs3 v) G') k) h4⟩)
            rfl (fun ⟨b, j, e⟩ => by
              obtain ⟨v', _, _, h5⟩ := hs.at (k := k) (by rw [hk1]; rfl)
              have := (h5 ⟨b, j, e⟩).1
              rw [hk1] at this; cases this) (fun h => by cases h) (by rw [hk1]; rfl) (fun b hb => by rw [← hk1] at hset; exact hs.refs k b (hset b hb))
            (fun z hz => .inl (hmem z hz)) (by
              refine List.nodup_append.2 ⟨n1, n5, fun z hz z' hz' => n3 z hz z' (List.mem_append_right _ hz')⟩)
            (fun z hz => ⟨.inr (hm2 z hz).1, (hm2 z hz).2⟩) (fun h => by cases h)
          exact hs2.value (u := .list t xs (.own s true)) (Gn := G2) hd (hrun y hy) (show ownR M (fun k => w.heap[k]?) t xs s y G2 from h3) rfl (fun b hb => by cases hb) (fun z hz => hz) n4 rfl Q
      all_goals (obtain ⟨e, _⟩ := hr.ret_inv; subst e; exact hplain _ hv rfl rfl)
    all_goals (obtain ⟨e, _⟩ := hr.ret_inv; subst e; exact hplain _ hv rfl rfl)
  all_goals exact hr.fail_inv.elim
include hT in
theorem fieldAddr_sound {t : TypeId} {x : Operand} {f : Nat} (ho : o.op = .fieldAddr t x f) : o.wp P a w (Good B (gputs g ws) n) Q := by
  simp only [evOp, ho] at hr
  replace hr := hr.bind_inv; obtain ⟨_, _, u, _, h1, hr⟩ := hr
  obtain ⟨G0, hV, hn, hrf, hk⟩ := opnd_sound hs h1
  replace hr := hr.opt_inv; obtain ⟨r, hrow, hr⟩ := hr
  replace hr := hr.opt_inv; obtain ⟨q, hq, hr⟩ := hr
  have hfield : ∀ b o', (Instr.fieldAt t (.pointer (some ⟨b, o', none⟩)) f).run P w = .ok (.pointer (some ⟨b, o' + q.1, none⟩)) w := fieldAt_run hT hrow hq
  cases u
  case ref b off =>
    obtain ⟨e, _⟩ := hr.ret_inv; subst e
    have hx : a.eval x = .pointer (some ⟨ι b, off, none⟩) := hV.1
    exact hs.val0 (.ref b (off + q.1)) (.pointer (some ⟨ι b, off + q.1, none⟩)) hd ⟨rfl, rfl⟩ (by simp only [execOp, ho, hx]; rw [Sem.run_bind, hfield]; simp) rfl hrf rfl Q
  case elt ty y off =>
    obtain ⟨e, _⟩ := hr.ret_inv; subst e
    obtain ⟨⟨b, o', us, hx, h2, h3⟩, _⟩ := id hV
    exact hs.val0 (.elt ty y (off + q.1)) (.pointer (some ⟨b, o' + off + q.1, none⟩)) hd ⟨⟨b, o', us, by rw [Nat.add_assoc], h2, h3⟩, rfl⟩ (by simp only [execOp, ho, hx]; rw [Sem.run_bind, hfield]; simp) rfl hrf rfl Q
  case ep k t i off =>
    replace hr := hr.rd_inv; obtain ⟨_, _, hr⟩ := hr
    split at hr
    · rename_i hold
      obtain ⟨e, _⟩ := hr.ret_inv; subst e
      obtain ⟨v', h2, _, _⟩ := hs.at (k := k) (old_undef hold)
      obtain ⟨b, o', m, c, hv', h3, hx⟩ := hV.1 v' (by simp only [enOf, oldAt]; rw [if_pos hold]; exact h2)
      refine hs.val0 (.ep k t i (off + q.1)) (.pointer (some ⟨b, o' + i * t.size + off + q.1, none⟩)) hd ⟨fun v'' hv => ?_, rfl⟩ (by simp only [execOp, ho, hx]; rw [Sem.run_bind, hfield]; simp) rfl hrf rfl Q
      simp only [enOf, oldAt] at hv
      rw [if_pos hold, h2] at hv
      cases hv
      exact ⟨b, o', m, c, hv', h3, by rw [Nat.add_assoc]⟩
    · exact hr.fail_inv.elim
  all_goals exact hr.fail_inv.elim
end
section
variable {P : Program} {B : Bs} {X X' : List Nat} {g : Key → V} {n : Nat} {a : Act} {w : World} {M : Mem} {ι : Nat → Nat} {Gs : Key → List Nat} {C : CallR}
/-- a value in hand, with nothing of its own -/
def Kept (g : Key → V) (w : World) (M : Mem) (ι : Nat → Nat) (u : V) (x : Value) : Prop :=
  (∀ old, VR ⟨M, fun k => w.heap[k]?, ι, old⟩ u x []) ∧ keys1 u = [] ∧ isOld u = false ∧ isUndef u = false ∧ ∀ b ∈ u.refs, live g b
def Kepts (g : Key → V) (w : World) (M : Mem) (ι : Nat → Nat) : List V → List Value → Prop
  | [], [] => True
  | u :: us, x :: xs => Kept g w M ι u x ∧ Kepts g w M ι us xs
  | _, _ => False
theorem Kept.mono {g g' : Key → V} {M M' : Mem} {u : V} {x : Value} (h : Kept g w M ι u x) (hM : Mle M M') (hl : ∀ b, live g b → live g' b) : Kept g' w M' ι u x :=
  ⟨fun old => VR_mono (⟨hM, (fun y hy => by cases hy), fun _ _ => rfl⟩ : En.le ⟨M, fun k => w.heap[k]?, ι, old⟩ ⟨M', fun k => w.heap[k]?, ι, old⟩ u.refs []) (fun q hq => by rw [h.2.1] at hq; cases hq) (h.1 old), h.2.1, h.2.2.1, h.2.2.2.1, fun b hb => hl b (h.2.2.2.2 b hb)⟩
theorem plain_kept (hs : Sim B [] g n a w M ι Gs) {x : Operand} {u : V} {ws : WS} {rs : List Key} (hr : Run C g (plain x) rs (u, ws)) :
    ∃ M' Gs', Sim B [] (gputs g ws) n a w M' ι Gs' ∧ Mle M M' ∧ Kept (gputs g ws) w M' ι u (a.eval x) ∧ ∀ k, isUndef (gputs g ws k) = isUndef (g k) := by
  obtain ⟨M', Gs', h1, h2, h3, h4, h5, h6, h7, h8, h9, h10, h11⟩ := plain_sound hs hr
  exact ⟨M', Gs', h1, h3, ⟨h2, h7, h8, h9, fun b hb => by have := h10 b hb; unfold live at this ⊢; rw [h11]; exact this⟩, h11⟩
theorem plains_sound : ∀ (xs : List Operand) {k : List V → WS → RM WS} {rs : List Key} {ws : WS} {g : Key → V} {M : Mem} {Gs : Key → List Nat} (hs : Sim B [] g n a w M ι Gs) (hr : Run C g (plains xs k) rs ws),
    ∃ us ws1 M' Gs' rs', Sim B [] (gputs g ws1) n a w M' ι Gs' ∧ Mle M M' ∧ Run C (gputs g ws1) (k us ws1) rs' ws ∧ Kepts (gputs g ws1) w M' ι us (xs.map a.eval) ∧ ∀ k, isUndef (gputs g ws1 k) = isUndef (g k)
  | [], k, rs, ws, g, M, Gs, hs, hr => ⟨[], [], M, Gs, rs, hs, Mle.refl _, hr, trivial, fun _ => rfl⟩
  | x :: r, k, rs, ws, g, M, Gs, hs, hr => by
    obtain ⟨r1, r2, ⟨u, ws1⟩, _, h1, h2⟩ := hr.bind_inv
    have h2 := h2.over_inv
    obtain ⟨M1, Gs1, hs1, hm1, hk1, hu1⟩ := plain_kept hs h1
    obtain ⟨us, ws2, M2, Gs2, rs', hs2, hm2, hrun, hks, hu2⟩ := plains_sound r hs1 h2
    rw [← gputs_append] at hs2 hrun hks hu2
    exact ⟨u :: us, ws1 ++ ws2, M2, Gs2, rs', hs2, hm1.trans hm2, hrun, ⟨hk1.mono hm2 (fun b hb => by unfold live at hb ⊢; rw [hu2]; exact hb), hks⟩, fun k => (hu2 k).trans (hu1 k)⟩
theorem LR_of_VR {E : En} {v : V} {x : Value} {G : List Nat} (hs : Vm.simple v = true) (hk : keys1 v = []) (h : VR E v x G) : LR E v x G := by
  cases v
  case agg => cases hs
  case tup => cases hs
  case fn => cases hs
  case alias => cases hk
  case ep => cases hk
  all_goals exact h
theorem refs_simple {v : V} (hs : Vm.simple v = true) : v.refs = refs1 v := by
  cases v
  case agg => cases hs
  case tup => cases hs
  case fn => cases hs
  all_goals rfl
theorem Kepts.simple : ∀ {us : List V} {xs : List Value}, Kepts g w M ι us xs → simples us = true → LsR (LR ⟨M, fun k => w.heap[k]?, ι, oldAt g (valAt a (fun k => w.heap[k]?) ι)⟩) us xs [] ∧ ∀ v ∈ us, ∀ b ∈ refs1 v, live g b
  | [], [], _, _ => ⟨rfl, fun v hv => by cases hv⟩
  | u :: us, x :: xs, ⟨h1, h2⟩, hsim => by
    simp only [simples, Bool.and_eq_true] at hsim
    obtain ⟨i1, i2⟩ := Kepts.simple (us := us) (xs := xs) h2 hsim.2
    obtain ⟨k1, k2, k3, k4, k5⟩ := h1
    have hsu := hsim.1
    refine ⟨⟨[], [], rfl, ?_, i1⟩, fun v hv b hb => ?_⟩
    · exact LR_of_VR hsu k2 (k1 _)
    · rcases List.mem_cons.1 hv with e | e
      · subst e
        exact k5 b (by rw [refs_simple hsu]; exact hb)
      · exact i2 v e b hb
  | [], _ :: _, h, _ => h.elim
  | _ :: _, [], h, _ => h.elim
variable {cfg : Cfg} {fu : FuncId} {o : Oper} {rs : List Key} {ws : WS} (hT : tabOk P cfg.tab cfg.tab = true) (hs : Sim B [] g n a w M ι Gs) (hd : inRange n o.dst = true) (hr : Run C g (evOp cfg fu o) rs ws) (Q : Exit → Act → World → Prop)
include hs hd hr
theorem makeFunc_sound {fn : Fn} {fs cp : Array Operand} (ho : o.op = .makeFunc fn fs cp) : o.wp P a w (Good B (gputs g ws) n) Q := by
  simp only [evOp, ho] at hr
  cases fn
  case func f =>
    cases hfs : fs.toList with
    | cons y ys => rw [hfs] at hr; exact hr.fail_inv.elim
    | nil =>
      rw [hfs] at hr
      have hfs' : fs = #[] := by cases fs; simp at hfs; rw [hfs]
      obtain ⟨us, ws1, M', Gs', rs', hs1, hm, hrun, hks, hu⟩ := plains_sound cp.toList hs hr
      obtain ⟨hsim, hrun⟩ := hrun.guard_inv
      obtain ⟨e, _⟩ := hrun.ret_inv; subst e
      obtain ⟨l1, l2⟩ := hks.simple (a := a) hsim
      rw [gputs_dst]
      refine hs1.val0 (.fn f us) (.func (.func f) #[] (cp.toList.map a.eval).toArray) hd ⟨⟨_, rfl, l1⟩, rfl⟩ ?_ rfl ?_ rfl Q
      · simp only [execOp, ho, Instr.makeFunc, hfs', show (cp.toList.map a.eval).toArray = cp.map a.eval by rw [← Array.toList_map]]; simp
      · intro b hb
        obtain ⟨v, hv, hb⟩ := List.mem_flatMap.1 hb
        exact l2 v hv b hb
  all_goals exact hr.fail_inv.elim
end
end Go.Proofs.Ytkfphlmbdppbfaa.Vm
