/- The machine's operations are the model's: structs and lists that are built. No condition. -/
import Derived.Test.YtkfphlmbdppbfaaVmOps7
import Derived.Great.BuildSlice
namespace Go.Proofs.Ytkfphlmbdppbfaa.Vm
open Go Go.RowKit
set_option linter.unusedVariables false
set_option linter.unusedSimpArgs false
theorem fold_toList (off : Nat) : ∀ (l : List Value) (k : Nat) (cs : Array Value), ((l.zipIdx k).foldl (fun cs (p : Value × Nat) => cs.setIfInBounds (off + p.2) p.1) cs).toList = setL cs.toList (off + k) l
  | [], k, cs => rfl
  | y :: l, k, cs => by
    rw [List.zipIdx_cons, List.foldl_cons, fold_toList off l (k + 1)]
    show setL _ _ _ = setL (cs.toList.set (off + k) y) (off + k + 1) l
    rw [Array.toList_setIfInBounds]; rfl
theorem fill_cons {place : Nat → Option (Nat × Nat)} {vals : List Value} {i off size : Nat} {v : Value} {rest : List (Nat × Value)} (hp : place i = some (off, size)) (hsz : v.cells.size = size) (hfit : off + size ≤ vals.length) :
    Instr.fill place vals.toArray ((i, v) :: rest) = Instr.fill place (setL vals off v.cells.toList).toArray rest := by
  have hf := fold_toList off v.cells.toList 0 vals.toArray
  have h2 : v.cells.zipIdx.foldl (fun cs (x : Value × Nat) => cs.setIfInBounds (off + x.2) x.1) vals.toArray = (setL vals off v.cells.toList).toArray := by
    rw [← Array.foldl_toList, Array.toList_zipIdx]
    apply Array.ext'
    rw [hf]; rfl
  have h3 : (v.cells.size ≠ size || off + v.cells.size > vals.toArray.size) = false := by simp [hsz]; omega
  rw [Instr.fill, hp]
  simp only [h3]
  exact congrArg (fun c => Instr.fill place c rest) h2
theorem places_of {P : Program} {tab : List Row} (hT : tabOk P tab tab = true) : ∀ {fs : List (Nat × TypeId)} {fl : List Field}, fieldsOk tab fs fl = true →
    ∃ places, fl.mapM (fun f => (P.info? f.type).map fun i => (f.offset, i.size)) = some places ∧ ∀ (i off : Nat) (t : TypeId), fs[i]? = some (off, t) → ∀ r, rowAt tab t = some r → places[i]? = some (off, r.cks.length)
  | [], [], _ => ⟨[], rfl, fun i off t h => by simp at h⟩
  | q :: fs, f :: fl, h => by
    have h0 := h
    simp only [fieldsOk, Bool.and_eq_true] at h
    obtain ⟨fd, e, h1, h2, r, h3, h4⟩ := fieldsOk_at (i := 0) h0 rfl
    simp at e; subst e
    obtain ⟨inf, h5, h6, _⟩ := (rowOk_of hT h3).info
    obtain ⟨pl, h7, h8⟩ := places_of hT h.2
    refine ⟨(f.offset, inf.size) :: pl, by simp [List.mapM_cons, h2, h5, h7], fun i off t hi r' hr' => ?_⟩
    cases i with
    | zero =>
      simp at hi
      rw [hi] at h1 h2 h3
      rw [hr'] at h3; cases h3
      simp [h1, h6]
    | succ i => simpa using h8 i off t (by simpa using hi) r' hr'
  | [], _ :: _, h => by simp [fieldsOk] at h
  | _ :: _, [], h => by simp [fieldsOk] at h
/-- where a part of a whole lies -/
theorem built_of {P : Program} {tab : List Row} (hT : tabOk P tab tab = true) {t : TypeId} {r : Row} (hrow : rowAt tab t = some r) (hw : isWhole tab r.sub = true) :
    ∃ place : Nat → Option (Nat × Nat), (∀ (i off : Nat) (q : Row), partOf tab r.sub i = some (off, q) → place i = some (off, q.cks.length) ∧ ∃ t', RowOk P tab q t') ∧
      ∀ parts, P.built t parts = Instr.fill place (r.cks.map CK.zeroVal).toArray parts := by
  have hR := rowOk_of hT hrow
  obtain ⟨d, hu, hdesc⟩ := hR.under
  obtain ⟨i, hi, hsz, _, hz⟩ := hR.info
  cases hsub : r.sub
  case struct fs =>
    cases d <;> simp [descOk, hsub] at hdesc
    rename_i fields
    obtain ⟨ha, hf⟩ := hdesc
    obtain ⟨places, h1, h2⟩ := places_of hT hf
    have hz' : i.zero = some (.agg (r.cks.map CK.zeroVal).toArray) := by
      rcases hz with ⟨_, h⟩ | ⟨h, _⟩
      · exact h
      · rw [ha] at h; cases h
    refine ⟨fun x => places[x]?, fun j off q hp => ?_, fun parts => ?_⟩
    · unfold partOf at hp
      dsimp only at hp
      split at hp
      · rename_i off' t' he
        split at hp
        · rename_i q' hq; cases hp
          exact ⟨h2 j off t' he q hq, t', rowOk_of hT hq⟩
        · cases hp
      · cases hp
    · simp [Program.built, hi, hu, hz', h1, Value.cells]
  case arr n e =>
    have hu' := under_arr hT hrow hsub
    rw [hu] at hu'; cases hu'
    simp [descOk, hsub] at hdesc
    have hz' : i.zero = some (.agg (r.cks.map CK.zeroVal).toArray) := by
      rcases hz with ⟨_, h⟩ | ⟨h, _⟩
      · exact h
      · rw [hdesc] at h; cases h
    cases her : rowAt tab e with
    | none => rw [hsub] at hw; simp [isWhole, her] at hw
    | some er =>
      obtain ⟨ie, h5, h6, _⟩ := (rowOk_of hT her).info
      refine ⟨fun j => some (j * ie.size, ie.size), fun j off q hp => ?_, fun parts => ?_⟩
      · unfold partOf at hp
        simp only [her] at hp
        cases hp
        exact ⟨by simp [h6], e, rowOk_of hT her⟩
      · simp [Program.built, hi, hu, hz', h5, Value.cells]
  all_goals (rw [hsub] at hw; cases hw)
section
variable {P : Program} {B : Bs} {X X' : List Nat} {g : Key → V} {n : Nat} {a : Act} {w : World} {M : Mem} {ι : Nat → Nat} {Gs : Key → List Nat} {C : CallR}
theorem LsR_same {M M' : Mem} {h : Nat → Option Obj} {cs : List V} {vals : List Value} {G : List Nat} (hM : Mle M M') (hG : ∀ g ∈ G, ∀ o, M' g o = M g o) (k : LsR (CR ⟨M, h, ι, fun _ => none⟩) cs vals G) : LsR (CR ⟨M', h, ι, fun _ => none⟩) cs vals G :=
  LsR_mono (fun v _ x G' hG' k => CR_wide hM (fun g hg => hG g (hG' g hg)) k) k
theorem buildParts_sound {tab : List Row} (hT : tabOk P tab tab = true) {sub : Sub} {place : Nat → Option (Nat × Nat)} (hp : ∀ (i off : Nat) (q : Row), partOf tab sub i = some (off, q) → place i = some (off, q.cks.length) ∧ ∃ t', RowOk P tab q t') :
    ∀ (l : List (Nat × Operand)) {cs : List V} {ws0 : WS} {k : List V → WS → RM WS} {g : Key → V} {M : Mem} {Gs : Key → List Nat} {G : List Nat} {vals : List Value} {rs : List Key} {ws : WS}
      (hs : Sim B G g n a w M ι Gs) (hls : LsR (CR ⟨M, fun k => w.heap[k]?, ι, fun _ => none⟩) cs vals G) (hn : G.Nodup) (hrf : ∀ v ∈ cs, ∀ b ∈ refs2 v, live g b) (hr : Run C g (buildParts tab sub l cs ws0 k) rs ws),
      ∃ (cs' : List V) (vals' : List Value) (ws1 : WS) (M' : Mem) (Gs' : Key → List Nat) (G' : List Nat) (rs' : List Key), Sim B G' (gputs g ws1) n a w M' ι Gs' ∧ LsR (CR ⟨M', fun k => w.heap[k]?, ι, fun _ => none⟩) cs' vals' G' ∧ G'.Nodup ∧ (∀ v ∈ cs', ∀ b ∈ refs2 v, live (gputs g ws1) b) ∧
        Run C (gputs g ws1) (k cs' (ws0 ++ ws1)) rs' ws ∧ Instr.fill place vals.toArray (l.map fun p => (p.1, a.eval p.2)) = some vals'.toArray
  | [], cs, ws0, k, g, M, Gs, G, vals, rs, ws, hs, hls, hn, hrf, hr => ⟨cs, vals, [], M, Gs, G, rs, hs, hls, hn, hrf, by rw [List.append_nil]; exact hr, rfl⟩
  | (i, x) :: l, cs, ws0, k, g, M, Gs, G, vals, rs, ws, hs, hls, hn, hrf, hr => by
    replace hr := hr.bind_inv; obtain ⟨_, _, v, _, h1, hr⟩ := hr
    replace hr := hr.bind_inv; obtain ⟨_, _, u, _, h2, hr⟩ := hr
    replace hr := hr.opt_inv; obtain ⟨q, hq, hr⟩ := hr
    replace hr := hr.opt_inv; obtain ⟨ps, hsh, hr⟩ := hr
    obtain ⟨hg, hr⟩ := hr.guard_inv
    simp only [Bool.and_eq_true, decide_eq_true_eq] at hg
    obtain ⟨hsure, hfit⟩ := hg
    replace hr := hr.over_inv
    obtain ⟨u, ws1⟩ := u
    obtain ⟨off, q⟩ := q
    obtain ⟨hpl, t', hR⟩ := hp i off q hq
    obtain ⟨G1, hV1, hn1, hrf1, hk1⟩ := opnd_sound hs h1
    obtain ⟨Gn, M', Gs', k1, k2, k3, k4, k5, k6, k7, k8, k9, k10, k11⟩ := moveAt_sound hs hk1 hV1 hn1 hrf1 h2
    have hps := shape_LsR (k2 (fun _ => none)) k7 hsh hsure
    have hlen := shape_len hR hsh
    have hdis : ∀ z ∈ Gn, z ∉ G := fun z hz hz' => by
      obtain ⟨k, hk⟩ := k6 z hz
      exact (hs.spare z hz').2.1 k hk
    have hls' := LsR_same (ι := ι) k3 (fun z hz o => Classical.byContradiction fun he => by
      obtain ⟨k, hk⟩ := k4 z o he
      exact (hs.spare z hz).2.1 k hk) hls
    obtain ⟨G', m1, m2, m3⟩ := LsR_fill hls' hps hfit
    have hl : ∀ b, live g b → live (gputs g ws1) b := fun b hb => by unfold live at hb ⊢; rw [k11]; exact hb
    have hcv : cs.length = vals.length := LsR_len hls
    have hyl : (a.eval x).cells.toList.length = ps.length := by rw [LsR_len hps]
    obtain ⟨cs', vals', ws2, M2, Gs2, G2, rs', j1, j2, j3, j4, j5, j6⟩ := buildParts_sound hT hp l (k1.less (X' := G') (fun z hz => (m2 z hz).elim (fun h => List.mem_append_right _ h) (fun h => List.mem_append_left _ h))) m1 (m3 hn k5 hdis)
      (fun v hv b hb => by
        rcases fillAt_mem ps hfit hv with h | h
        · exact hl b (hrf v h b hb)
        · exact hl b (k10 b (shape_refs hsh v h b hb))) hr
    refine ⟨cs', vals', ws1 ++ ws2, M2, Gs2, G2, rs', by rw [gputs_append]; exact j1, j2, j3, by rw [gputs_append]; exact j4, by rw [gputs_append, ← List.append_assoc]; exact j5, ?_⟩
    rw [List.map_cons, fill_cons hpl (by rw [← hlen, ← hyl]; simp) (by rw [← hlen, ← hcv]; exact hfit)]
    exact j6
where
  fillAt_mem : ∀ (ps : List V) {cs : List V} {off : Nat} {v : V}, off + ps.length ≤ cs.length → v ∈ fillAt cs off ps → v ∈ cs ∨ v ∈ ps
    | [], cs, off, v, _, h => .inl h
    | p :: ps, cs, off, v, hl, h => by
      have hlt : off < cs.length := by simp at hl; omega
      have h : v ∈ fillAt (sput cs off p) (off + 1) ps := h
      rw [sput_set cs off p hlt] at h
      rcases fillAt_mem ps (by rw [List.length_set]; simp at hl; omega) h with h | h
      · rcases List.mem_or_eq_of_mem_set h with h | h
        · exact .inl h
        · exact .inr (by rw [h]; simp)
      · exact .inr (List.mem_cons_of_mem _ h)
variable {cfg : Cfg} {fu : FuncId} {o : Oper} {rs : List Key} {ws : WS} (hT : tabOk P cfg.tab cfg.tab = true) (hs : Sim B [] g n a w M ι Gs) (hd : inRange n o.dst = true) (hr : Run C g (evOp cfg fu o) rs ws) (Q : Exit → Act → World → Prop)
include hs hd hr
include hT in
theorem build_sound {t : TypeId} {parts : Array (Nat × Operand)} (ho : o.op = .build t parts) : o.wp P a w (Good B (gputs g ws) n) Q := by
  simp only [evOp, ho] at hr
  replace hr := hr.opt_inv; obtain ⟨r, hrow, hr⟩ := hr
  obtain ⟨hw, hr⟩ := hr.guard_inv
  obtain ⟨place, hp, hb⟩ := built_of hT hrow hw
  obtain ⟨cs', vals', ws1, M', Gs', G', rs', j1, j2, j3, j4, j5, j6⟩ := buildParts_sound hT hp parts.toList hs (zeros_LsR _ r.cks) List.nodup_nil (fun v hv b hb => by
    obtain ⟨c, _, rfl⟩ := List.mem_map.1 hv
    cases c <;> cases hb) hr
  obtain ⟨e, _⟩ := j5.ret_inv; subst e
  rw [List.nil_append, gputs_dst]
  refine j1.value (u := .agg cs') (x := .agg vals'.toArray) (Gn := G') hd ?_ ⟨vals', rfl, LsR_mono (fun v _ x G' _ k => CR_any k) j2⟩ rfl ?_ (fun y hy => hy) j3 rfl Q
  · simp only [execOp, ho]
    rw [Sem.run_bind, run_build w t _ vals'.toArray (by rw [hb, ← j6]; simp)]; simp
  · intro b hb
    obtain ⟨v, hv, hb⟩ := List.mem_flatMap.1 hb
    exact j4 v hv b hb
end
end Go.Proofs.Ytkfphlmbdppbfaa.Vm
