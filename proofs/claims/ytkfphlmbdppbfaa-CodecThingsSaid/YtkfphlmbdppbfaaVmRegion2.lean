/- The machine's regions are the model's. No condition. -/
import Derived.Test.YtkfphlmbdppbfaaVmRegion
namespace Go.Proofs.Ytkfphlmbdppbfaa.Vm
open Go Go.RowKit
set_option linter.unusedVariables false
set_option linter.unusedSimpArgs false
inductive Runs (C : CallR) (cfg : Cfg) (fu : FuncId) (ops : Array Oper) (n : Nat) : List Oper → (Key → V) → List (FP × WS) → Prop where
  | nil (g : Key → V) : Runs C cfg fu ops n [] g []
  | cons {o : Oper} {os : List Oper} {g : Key → V} {fp : FP} {ws : WS} {l : List (FP × WS)} (hd : inRange n o.dst = true) (h : OpRun C cfg fu ops g o fp ws) (hr : Runs C cfg fu ops n os (gputs g ws) l) : Runs C cfg fu ops n (o :: os) g ((fp, ws) :: l)
theorem gf_none : ∀ (l : List WS) (g : Key → V) (i : Nat), gf g l (fun _ => false) i = g
  | [], _, _ => rfl
  | _ :: l, g, i => gf_none l g (i + 1)
section
variable {C : CallR} {cfg : Cfg} {fu : FuncId} {ops : Array Oper} {n : Nat}
theorem Runs.len : ∀ {os : List Oper} {g : Key → V} {l : List (FP × WS)}, Runs C cfg fu ops n os g l → l.length = os.length
  | _, _, _, .nil _ => rfl
  | _, _, _, .cons _ _ hr => by simp [hr.len]
theorem Runs.at : ∀ {os : List Oper} {g : Key → V} {l : List (FP × WS)} {i i0 : Nat} {o : Oper}, Runs C cfg fu ops n os g l → os[i]? = some o →
    ∃ fp ws, l[i]? = some (fp, ws) ∧ inRange n o.dst = true ∧ OpRun C cfg fu ops (gf g (l.map (·.2)) (fun j => decide (j < i0 + i)) i0) o fp ws
  | _, _, _, i, _, _, .nil _, h => by simp at h
  | _, g, _, 0, i0, o, .cons (fp := fp) (ws := ws) (l := l) hd ho hr, h => by
    simp at h; subst h
    refine ⟨fp, ws, rfl, hd, ?_⟩
    have : gf g (((fp, ws) :: l).map (·.2)) (fun j => decide (j < i0 + 0)) i0 = g := by
      rw [← gf_none (((fp, ws) :: l).map (·.2)) g i0]
      funext k
      rw [gf_none]
      have := gf_congr (((fp, ws) :: l).map (·.2)) (g := g) (g' := g) (S := fun j => decide (j < i0 + 0)) (S' := fun _ => false) (i := i0) (k := k) rfl (fun j _ _ _ => by simp)
      rw [this, gf_none]
    rw [this]; exact ho
  | _, g, _, i + 1, i0, o, .cons (fp := fp) (ws := ws) (l := l) hd ho hr, h => by
    obtain ⟨fp', ws', h1, h2, h3⟩ := hr.at (i := i) (i0 := i0 + 1) (by simpa using h)
    refine ⟨fp', ws', by simpa using h1, h2, ?_⟩
    have e : (fun j => decide (j < i0 + 1 + i)) = (fun j => decide (j < i0 + (i + 1))) := by funext j; congr 1; apply propext; omega
    rw [e] at h3
    show OpRun C cfg fu ops (gf (if decide (i0 < i0 + (i + 1)) = true then gputs g ws else g) (l.map (·.2)) (fun j => decide (j < i0 + (i + 1))) (i0 + 1)) o fp' ws'
    rw [if_pos (by simp)]
    exact h3
end
theorem count_set : ∀ {l : List Bool} {i : Nat}, l[i]? = some false → (l.set i true).count false + 1 = l.count false
  | [], _, h => by simp at h
  | b :: l, 0, h => by simp at h; subst h; simp
  | b :: l, i + 1, h => by
    have := count_set (l := l) (i := i) (by simpa using h)
    rw [List.set_cons_succ, List.count_cons, List.count_cons]; omega
theorem count_zero : ∀ {l : List Bool}, l.count false = 0 → ∀ b ∈ l, b = true
  | b :: l, h, b', hb => by
    rw [List.count_cons] at h
    rcases List.mem_cons.1 hb with e | e
    · subst e; cases b' <;> simp at h ⊢
    · exact count_zero (by omega) b' e
section
variable {P : Program} {B : Bs} {g : Key → V} {n : Nat} {a : Act} {w : World} {cfg : Cfg} {fu : FuncId} {ops : Array Oper} {Q : Exit → Act → World → Prop}
theorem tmp_bool {t : Nat} {b : Bool} (h : a.tmps.getD t Go.undef = .bool b) : a.tmps[t]? = some (.bool b) := by
  rw [Array.getD_eq_getD_getElem?] at h
  cases hq : a.tmps[t]? with
  | none => rw [hq] at h; cases h
  | some v => rw [hq] at h; exact congrArg some h
theorem tmp_undef {t : Nat} (h : a.tmps.getD t Go.undef = Go.undef) : a.tmps[t]? = none ∨ a.tmps[t]? = some Go.undef := by
  rw [Array.getD_eq_getD_getElem?] at h
  cases hq : a.tmps[t]? with
  | none => exact .inl rfl
  | some v => rw [hq] at h; exact .inr (congrArg some h)
theorem wpOp_sound (hT : tabOk P cfg.tab cfg.tab = true) (hL : CloneOk P cfg) {i : Nat} {o : Oper} {fp : FP} {ws : WS} {K : Act → World → Prop} (hi : ops[i]? = some o) (h : OpRun (CallAt P) cfg fu ops g o fp ws) (hg : Good B g n a w) (hd : inRange n o.dst = true)
    (hK : ∀ a' w', Good B (gputs g ws) n a' w' → K a' w') : wpOp P ops Q i K a w := by
  obtain ⟨M, ι, Gs, hs⟩ := hg
  unfold wpOp
  rw [hi]
  dsimp only
  have hrun : ∀ rs, Run (CallAt P) g (evOp cfg fu o) rs ws → o.wp P a w K Q := fun rs hr => Oper.wp_mono hK (op_sound hT (callAt_ok P) hL hs hd hr Q)
  have hskip : ws = dstW o.dst .skip → K (a.put o.dst Go.undef) w := by
    intro e
    subst e
    refine hK _ _ ?_
    cases hdd : o.dst with
    | none => exact ⟨M, ι, Gs, hs⟩
    | some d =>
      rw [hdd] at hd
      exact ⟨M, ι, _, hs.setSlot (V := .skip) (v := Go.undef) (Gn := []) (X' := []) (inRange_lt hd) ⟨rfl, rfl⟩ rfl (fun b hb => by cases hb) (fun y hy => by cases hy) List.nodup_nil (fun x hx => by cases hx) (fun h => by cases h)⟩
  obtain ⟨h1, h2⟩ := h
  cases hgd : o.guard with
  | none =>
    rw [hgd] at h2
    obtain ⟨rs, h3, _⟩ := h2
    rw [if_pos (by simp [Region.wanted, hgd])]
    exact .inl (hrun rs h3)
  | some p =>
    obtain ⟨j, want⟩ := p
    rw [hgd] at h2
    obtain ⟨t, h3, _, h5⟩ := h2
    have hsl := hs.slot t
    rcases h5 with ⟨h5, rs, h6, _⟩ | ⟨h5, h6⟩
    · rw [h5] at hsl
      have hy : yielded ops a.tmps j = some want := by
        unfold yielded
        rw [show (ops[j]?).bind (·.dst) = some t from h3]
        simp only [Option.bind_some, tmp_bool hsl.1]
      rw [if_pos (by simp [Region.wanted, hgd, hy])]
      exact .inl (hrun rs h6)
    · have hy : yielded ops a.tmps j ≠ some want := by
        unfold yielded
        rw [show (ops[j]?).bind (·.dst) = some t from h3]
        rcases h5 with h5 | h5
        · rw [h5] at hsl
          simp only [Option.bind_some, tmp_bool hsl.1]
          cases want <;> simp
        · rw [h5] at hsl
          simp only [Option.bind_some]
          rcases tmp_undef hsl.1 with h | h <;> rw [h] <;> simp [Go.undef]
      rw [if_neg (by simp [Region.wanted, hgd]; exact hy)]
      exact hskip h6
theorem wpOps_run (hT : tabOk P cfg.tab cfg.tab = true) (hL : CloneOk P cfg) : ∀ {os : List Oper} {l : List (FP × WS)} {i : Nat} {g : Key → V} {a : Act} {w : World}, Runs (CallAt P) cfg fu ops n os g l → (∀ j o, os[j]? = some o → ops[i + j]? = some o) → Good B g n a w →
    (∀ a' w', Good B (gputs g (l.map (·.2)).flatten) n a' w' → Q .normal a' w') → wpOps P ops Q (List.range' i os.length) a w
  | [], _, i, g, a, w, .nil _, _, hg, hQ => hQ a w hg
  | o :: os, _, i, g, a, w, .cons hd ho hr, ho', hg, hQ => by
    rw [List.length_cons, List.range'_succ, wpOps_cons]
    refine wpOp_sound hT hL (by have := ho' 0 o rfl; rwa [Nat.add_zero] at this) ho hg hd (fun a' w' hg' => ?_)
    refine wpOps_run hT hL hr (fun j o' hj => by rw [show i + 1 + j = i + (j + 1) by omega]; exact ho' (j + 1) o' (by simpa using hj)) hg' (fun a'' w'' hg'' => hQ a'' w'' ?_)
    rw [List.map_cons, List.flatten_cons, gputs_append]; exact hg''
theorem wpAny_run (hT : tabOk P cfg.tab cfg.tab = true) (hL : CloneOk P cfg) {l : List (FP × WS)} (hr : Runs (CallAt P) cfg fu ops n ops.toList g l) (hord : orderOk ops.toList (l.map (·.1)) [] [] = true)
    (hQ : ∀ a' w', Good B (gputs g (l.map (·.2)).flatten) n a' w' → Q .normal a' w') : ∀ (fuel : Nat) {listed : Array Bool} {a : Act} {w : World}, listed.size = ops.size →
    (∀ i o, ops[i]? = some o → listed.getD i false = true → ∀ e ∈ o.after.toList, Region.binds .any e = true → listed.getD e.on false = true) → listed.toList.count false ≤ fuel →
    Good B (gf g (l.map (·.2)) (fun j => listed.getD j false) 0) n a w → wpAny P .any ops Q fuel listed a w := by
  have hlen : l.length = ops.size := by rw [hr.len]; simp
  have hspec : ∀ (S : Nat → Bool), (∀ i o, ops[i]? = some o → S i = true → ∀ e ∈ o.after.toList, Region.binds .any e = true → S e.on = true) → ∀ (i : Nat) (o : Oper) (fp : FP) (ws : WS), ops[i]? = some o → l[i]? = some (fp, ws) →
      (∀ e ∈ o.after.toList, Region.binds .any e = true → e.on < i) ∧ ((∀ e ∈ o.after.toList, Region.binds .any e = true → S e.on = true) → ∀ (j : Nat) (fp' : FP) (ws' : WS), j < i → l[j]? = some (fp', ws') → fp.clash fp' = true → S j = true) := by
    intro S hS i o fp ws hi hl
    obtain ⟨h1, h2⟩ := orderOk_spec (S := S) hord (by simp [hlen]) rfl (fun i j hi => by simp at hi) (fun i o hi hSi => hS i o (by simpa using hi) (by simpa using hSi)) i o fp (by simpa using hi) (by simp [hl])
    refine ⟨fun e he hb => by have := h1 e he hb; simpa using this, fun hE j fp' ws' hj hlj hc => h2 hE j fp' (by simpa using hj) (by simp [hlj]) hc⟩
  have hkeys : ∀ (j : Nat) (o : Oper) (fp : FP) (ws : WS), ops[j]? = some o → l[j]? = some (fp, ws) → fp.w = keysOf ws := by
    intro j o fp ws hj hl
    obtain ⟨fp', ws', h1, _, h2⟩ := hr.at (i := j) (i0 := 0) (by simpa using hj)
    rw [hl] at h1; cases h1
    exact h2.1
  have hex : ∀ (j : Nat) (p : FP × WS), l[j]? = some p → ∃ o, ops[j]? = some o := by
    intro j p hj
    have := (List.getElem?_eq_some_iff.1 hj).1
    exact ⟨ops[j]'(by omega), Array.getElem?_eq_getElem (by omega)⟩
  intro fuel
  induction fuel with
  | zero =>
    intro listed a w hsz hcl hcnt hG
    have hall : ∀ j, j < ops.size → listed.getD j false = true := by
      intro j hj
      have h1 : listed.toList[j]? = some (listed[j]'(by omega)) := by simp [hsz, hj]
      have := count_zero (Nat.le_zero.1 hcnt) _ (List.mem_of_getElem? h1)
      rw [Array.getD_eq_getD_getElem?, Array.getElem?_eq_getElem (by omega), this]; rfl
    refine ⟨?_, hQ a w ?_⟩
    · unfold Region.ready
      rw [List.filter_eq_nil_iff]
      intro i hi
      have hi := List.mem_range.1 hi
      have := hall i hi
      rw [Array.getD_eq_getD_getElem?, Array.getElem?_eq_getElem (by omega)] at this
      simp only [Option.getD_some] at this
      rw [Array.getD_eq_getD_getElem?, Array.getElem?_eq_getElem (by omega)]
      simp [this]
    · rwa [gf_all _ _ _ _ (fun j hj => by rw [Nat.zero_add]; exact hall j (by simpa [hlen] using hj))] at hG
  | succ fuel ih =>
    intro listed a w hsz hcl hcnt hG
    have hmem : ∀ i o, ops[i]? = some o → listed.getD i false = false → (∀ e ∈ o.after.toList, Region.binds .any e = true → listed.getD e.on false = true) → i ∈ Region.ready .any ops listed := by
      intro i o hi hli he
      have hlt := (Array.getElem?_eq_some_iff.1 hi).1
      unfold Region.ready
      rw [List.mem_filter]
      refine ⟨List.mem_range.2 hlt, ?_⟩
      rw [Array.getD_eq_getD_getElem?, Array.getElem?_eq_getElem (by omega)] at hli
      simp only [Option.getD_some] at hli
      rw [Array.getD_eq_getD_getElem?, Array.getElem?_eq_getElem (by omega), hi]
      simp only [Option.getD_some, hli, Option.map_some, Bool.not_false, Bool.true_and]
      rw [Array.all_eq_true_iff_forall_mem]
      intro e hem
      cases hb : Region.binds .any e with
      | false => rfl
      | true => simp only [Bool.not_true, Bool.false_or]; exact he e (by simpa using hem) hb
    refine ⟨fun hnil => hQ a w ?_, fun i hi => ?_⟩
    · have hall : ∀ j, j < ops.size → listed.getD j false = true := by
        intro j
        induction j using Nat.strongRecOn with
        | _ j ihj =>
          intro hj
          cases hq : listed.getD j false with
          | true => rfl
          | false =>
            have hj' : ops[j]? = some ops[j] := Array.getElem?_eq_getElem hj
            have hlj : l[j]? = some (l[j]'(by omega)) := List.getElem?_eq_getElem (by omega)
            obtain ⟨h1, _⟩ := hspec (fun j => listed.getD j false) hcl j _ (l[j]'(by omega)).1 (l[j]'(by omega)).2 hj' hlj
            have := hmem j _ hj' hq (fun e he hb => ihj e.on (h1 e he hb) (by have := h1 e he hb; omega))
            rw [hnil] at this; cases this
      rwa [gf_all _ _ _ _ (fun j hj => by rw [Nat.zero_add]; exact hall j (by simpa [hlen] using hj))] at hG
    · unfold Region.ready at hi
      rw [List.mem_filter] at hi
      obtain ⟨hi1, hi2⟩ := hi
      have hlt := List.mem_range.1 hi1
      have hio : ops[i]? = some ops[i] := Array.getElem?_eq_getElem hlt
      rw [Array.getD_eq_getD_getElem?, Array.getElem?_eq_getElem (by omega), hio] at hi2
      simp only [Option.getD_some, Option.map_some, Bool.and_eq_true, Bool.not_eq_true'] at hi2
      obtain ⟨hli, hedge⟩ := hi2
      rw [Array.all_eq_true_iff_forall_mem] at hedge
      have hedge' : ∀ e ∈ (ops[i]).after.toList, Region.binds .any e = true → listed.getD e.on false = true := by
        intro e he hb
        have := hedge e (by simpa using he)
        rw [hb] at this
        simpa using this
      have hSi : listed.getD i false = false := by
        rw [Array.getD_eq_getD_getElem?, Array.getElem?_eq_getElem (by omega)]; exact hli
      obtain ⟨fp, ws, hl, hd, hrun⟩ := hr.at (i := i) (i0 := 0) (show ops.toList[i]? = some ops[i] by rw [Array.getElem?_toList]; exact hio)
      have hwi := hkeys i _ fp ws hio hl
      obtain ⟨_, hsi⟩ := hspec (fun j => listed.getD j false) hcl i _ fp ws hio hl
      have hsi := hsi hedge'
      -- what stands behind it and meets it is not done
      have hlater : ∀ (j : Nat) (fp' : FP) (ws' : WS), i < j → l[j]? = some (fp', ws') → fp'.clash fp = true → listed.getD j false = false := by
        intro j fp' ws' hj hlj hc
        cases hq : listed.getD j false with
        | false => rfl
        | true =>
          obtain ⟨oj, hoj⟩ := hex j _ hlj
          obtain ⟨_, h2⟩ := hspec (fun j => listed.getD j false) hcl j oj fp' ws' hoj hlj
          have := h2 (hcl j oj hoj hq) i fp ws hj hl hc
          rw [hSi] at this; cases this
      have hmapl : ∀ (j : Nat) (ws' : WS), (l.map (·.2))[j]? = some ws' → ∃ fp', l[j]? = some (fp', ws') := by
        intro j ws' h
        rw [List.getElem?_map] at h
        cases hq : l[j]? with
        | none => rw [hq] at h; cases h
        | some p => rw [hq] at h; obtain ⟨p1, p2⟩ := p; cases h; exact ⟨p1, rfl⟩
      refine wpOp_sound hT hL hio (hrun.local (fun k hk => ?_)) hG hd (fun a' w' hg' => ?_)
      · refine gf_congr _ rfl (fun j ws' hj hkw => ?_)
        obtain ⟨fp', hlj⟩ := hmapl j ws' hj
        obtain ⟨oj, hoj⟩ := hex j _ hlj
        have hwj := hkeys j oj fp' ws' hoj hlj
        rw [Nat.zero_add]
        rcases Nat.lt_trichotomy j i with h | h | h
        · rw [hsi j fp' ws' h hlj (clash_rw hk (by rw [hwj]; exact hkw))]
          simp; omega
        · subst h; rw [hSi]; simp
        · rw [hlater j fp' ws' h hlj (clash_wr (by rw [hwj]; exact hkw) hk)]
          simp; omega
      · have hget : ∀ j, (listed.setIfInBounds i true).getD j false = if i = j then true else listed.getD j false := by
          intro j
          rw [Array.getD_eq_getD_getElem?, Array.getD_eq_getD_getElem?, Array.getElem?_setIfInBounds]
          by_cases e : i = j
          · subst e; simp [hsz, hlt]
          · simp [e]
        refine ih (by rw [Array.size_setIfInBounds]; exact hsz) (fun j o hj hlj e he hb => ?_) ?_ ?_
        · rw [hget] at hlj ⊢
          split
          · rfl
          · split at hlj
            · rename_i e1; subst e1; rw [hio] at hj; cases hj; exact hedge' e he hb
            · exact hcl j o hj hlj e he hb
        · rw [Array.toList_setIfInBounds]
          have h1 : listed.toList[i]? = some false := by
            rw [Array.getElem?_toList, Array.getElem?_eq_getElem (by omega), hli]
          have := count_set h1
          omega
        · have hfun : gf g (l.map (·.2)) (fun j => (listed.setIfInBounds i true).getD j false) 0 = gputs (gf g (l.map (·.2)) (fun j => listed.getD j false) 0) ws := by
            funext k
            by_cases hk : k ∈ keysOf ws
            · refine gf_in _ (j := i) (by rw [List.getElem?_map, hl]; rfl) (by rw [Nat.zero_add, hget, if_pos rfl]) hk (fun j' ws' hj' hlj' hS' hk' => ?_)
              obtain ⟨fp', hlj⟩ := hmapl j' ws' hlj'
              obtain ⟨oj, hoj⟩ := hex j' _ hlj
              have hwj := hkeys j' oj fp' ws' hoj hlj
              rw [Nat.zero_add, hget, if_neg (by omega)] at hS'
              rw [hlater j' fp' ws' hj' hlj (clash_ww (by rw [hwj]; exact hk') (by rw [hwi]; exact hk))] at hS'
              cases hS'
            · rw [gputs_out _ hk]
              refine gf_congr _ rfl (fun j ws' hj hkw => ?_)
              rw [Nat.zero_add, hget]
              by_cases e : i = j
              · subst e
                obtain ⟨fp', hlj⟩ := hmapl i ws' hj
                rw [hl] at hlj; cases hlj
                exact absurd hkw hk
              · rw [if_neg e]
          rw [hfun]; exact hg'
theorem Good.drew (h : Good B g n a w) : Good B g n a { w with drawn := w.drawn + 1 } := by
  obtain ⟨M, ι, Gs, hs⟩ := h
  exact ⟨M, ι, Gs, hs.world (w' := w.drew) (L := []) ((Fr.refl [] w).drew) (fun x hx => by cases hx) (fun b _ h => by cases h) (Mle.refl _) (fun b o e => absurd rfl e) (fun b o v hv => hs.stable b o v hv) (fun x hx => by cases hx)⟩
theorem region_sound (hT : tabOk P cfg.tab cfg.tab = true) (hL : CloneOk P cfg) (hm : P.follows .mixedOrders = true) {id : Nat} {draw : Bool} {l : List (FP × WS)} (hr : Runs (CallAt P) cfg fu ops n ops.toList g l)
    (hord : draw = true → orderOk ops.toList (l.map (·.1)) [] [] = true) (hg : Good B g n a w) : (Code.region id ops draw).wp P (fun e a' w' => e = .normal ∧ Good B (gputs g (l.map (·.2)).flatten) n a' w') a w := by
  cases draw with
  | false =>
    refine wp_region ?_
    have := wpOps_run (Q := fun e a' w' => e = .normal ∧ Good B (gputs g (l.map (·.2)).flatten) n a' w') hT hL (i := 0) hr (fun j o hj => by simpa using hj) hg (fun a' w' h => ⟨rfl, h⟩)
    rwa [List.range_eq_range', ← Array.length_toList]
  | true =>
    refine wp_region_any hm ?_
    refine wpAny_run hT hL hr (hord rfl) (fun a' w' h => ⟨rfl, h⟩) ops.size (by simp) (fun i o hi h => ?_) (by simp) ?_
    · exfalso
      rw [Array.getD_eq_getD_getElem?] at h
      by_cases hlt : i < ops.size <;> simp [hlt] at h
    · have : gf g (l.map (·.2)) (fun j => (Array.replicate ops.size false).getD j false) 0 = g := by
        rw [show (fun j => (Array.replicate ops.size false).getD j false) = fun _ => false from by
          funext j
          rw [Array.getD_eq_getD_getElem?]
          by_cases hlt : j < ops.size <;> simp [hlt]]
        exact gf_none _ _ _
      rw [this]; exact hg.drew
/-! what the machine does -/
theorem gput_same {g : Key → V} {k : Key} {v : V} (h : g k = v) : gput g k v = g := by
  funext k'
  by_cases e : k = k'
  · subst e; rw [gput_self, h]
  · rw [gput_ne _ e]
theorem evOps_inv {C : CallR} {cf : CallF} (hC : ∀ f args lent κ z, cf f args lent κ = some z → ∃ r, C f args lent r ∧ κ r = some z) {draw : Bool} : ∀ {rest : List Oper} {fps : List FP} {σ : St} {k : St → Option Res} {z : Res}, evOps cfg fu cf ops draw rest fps σ k = some z →
    ∃ (l : List (FP × WS)) (σ' : St), Runs C cfg fu ops σ.n rest σ.get l ∧ σ'.get = gputs σ.get (l.map (·.2)).flatten ∧ σ'.n = σ.n ∧ (draw = true → orderOk ops.toList (fps ++ l.map (·.1)) [] [] = true) ∧ k σ'.calm = some z
  | [], fps, σ, k, z, h => by
    unfold evOps at h
    refine ⟨[], σ, .nil _, rfl, rfl, ?_⟩
    split at h
    · split at h
      · rename_i h1; exact ⟨fun _ => by simpa using h1, h⟩
      · cases h
    · exact ⟨fun h2 => (by cases h2), h⟩
  | o :: rest, fps, σ, k, z, h => by
    unfold evOps at h
    split at h
    case h_1 => cases h
    rename_i hd
    have hgo : ∀ {fp : FP} {ws : WS} {σ1 : St}, σ1.get = σ.get → σ1.n = σ.n → OpRun C cfg fu ops σ.get o fp ws → evOps cfg fu cf ops draw rest (fps ++ [fp]) (σ1.puts ws) k = some z →
        ∃ (l : List (FP × WS)) (σ' : St), Runs C cfg fu ops σ.n (o :: rest) σ.get l ∧ σ'.get = gputs σ.get (l.map (·.2)).flatten ∧ σ'.n = σ.n ∧ (draw = true → orderOk ops.toList (fps ++ l.map (·.1)) [] [] = true) ∧ k σ'.calm = some z := by
      intro fp ws σ1 e1 e2 ho hev
      obtain ⟨l, σ', k1, k2, k3, k4, k5⟩ := evOps_inv hC hev
      rw [n_puts, e2] at k1 k3
      rw [get_puts, e1] at k1 k2
      exact ⟨(fp, ws) :: l, σ', .cons hd ho k1, by rw [List.map_cons, List.flatten_cons, gputs_append]; exact k2, k3, fun hdr => by simpa using k4 hdr, k5⟩
    split at h
    · rename_i hgd
      obtain ⟨r, ws, h1, h2⟩ := runR_run hC _ _ _ _ h
      refine hgo rfl rfl ⟨rfl, ?_⟩ h2
      rw [hgd]
      exact ⟨r, h1, fun k hk => by simpa using hk⟩
    · rename_i j want hgd
      split at h
      · cases h
      · rename_i t ht
        split at h
        · rename_i b hb
          have hbt : σ.get (.s t) = .bool b := hb
          rw [tst_eq] at h
          split at h
          · rename_i hbb
            subst hbb
            have e1 : (σ.put (.s t) (.bool true)).get = σ.get := by rw [get_put, gput_same hbt]
            split at h
            · obtain ⟨r, ws, h1, h2⟩ := runR_run hC _ _ _ _ h
              rw [e1] at h1
              refine hgo e1 rfl ⟨rfl, ?_⟩ h2
              rw [hgd]
              exact ⟨t, ht, by simp, .inl ⟨by rw [hbt], r, h1, fun k hk => by simp [hk]⟩⟩
            · refine hgo e1 rfl ⟨rfl, ?_⟩ h
              rw [hgd]
              refine ⟨t, ht, by simp, .inr ⟨.inl ?_, rfl⟩⟩
              rw [hbt]; rfl
          · rename_i hbb
            have hbb : b = false := by simpa using hbb
            subst hbb
            have e1 : (σ.put (.s t) (.bool false)).get = σ.get := by rw [get_put, gput_same hbt]
            split at h
            · refine hgo e1 rfl ⟨rfl, ?_⟩ h
              rw [hgd]
              refine ⟨t, ht, by simp, .inr ⟨.inl ?_, rfl⟩⟩
              rw [hbt]; rfl
            · obtain ⟨r, ws, h1, h2⟩ := runR_run hC _ _ _ _ h
              rw [e1] at h1
              refine hgo e1 rfl ⟨rfl, ?_⟩ h2
              rw [hgd]
              refine ⟨t, ht, by simp, .inl ⟨?_, r, h1, fun k hk => by simp [hk]⟩⟩
              rw [hbt]
        · rename_i hb
          have hbt : σ.get (.s t) = .skip := hb
          refine hgo rfl rfl ⟨rfl, ?_⟩ h
          rw [hgd]
          exact ⟨t, ht, by simp, .inr ⟨.inr hbt, rfl⟩⟩
        · cases h
end
end Go.Proofs.Ytkfphlmbdppbfaa.Vm
