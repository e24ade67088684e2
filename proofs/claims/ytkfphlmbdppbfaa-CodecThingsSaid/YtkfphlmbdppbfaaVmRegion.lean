/- The machine's regions are the model's, in whatever order. No condition. -/
import Derived.Test.YtkfphlmbdppbfaaVmCall3
import Derived.Orders
namespace Go.Proofs.Ytkfphlmbdppbfaa.Vm
open Go Go.RowKit
set_option linter.unusedVariables false
set_option linter.unusedSimpArgs false
/-- a call is one of the model -/
def CallAt (P : Program) : CallR := fun f args lent r => (∀ vals w, (callFunc f vals).run P w = .ok (.enter f vals) w) ∧
    ∀ (L : List Nat) (w : World) (M : Mem) (ι : Nat → Nat) (Gs : Key → List Nat) (vals : List Value), Sim ⟨L, w, M, []⟩ [] (gLent lent) 0 act0 w M ι Gs →
      LsR (VR ⟨M, fun k => w.heap[k]?, ι, fun _ => none⟩) args vals [] → (∀ v ∈ args, keys1 v = [] ∧ ∀ b ∈ v.refs, live (gLent lent) b) →
      Calls P f vals.toArray w fun e w' => ∃ v, e = .returned v ∧ ∃ M' ι' Gs' G, Sim ⟨L, w, M, []⟩ G (gLent r.2) 0 act0 w' M' ι' Gs' ∧ VR ⟨M', fun k => w'.heap[k]?, ι', fun _ => none⟩ r.1 v G ∧ G.Nodup ∧ keys1 r.1 = [] ∧
        (∀ b ∈ r.1.refs, live (gLent r.2) b) ∧ ∀ b, live (gLent lent) b → live (gLent r.2) b → ι' b = ι b
theorem callAt_ok (P : Program) : CallOk P (CallAt P) := fun _ _ _ _ h => h
/-- what an operation of a region comes to -/
def OpRun (C : CallR) (cfg : Cfg) (fu : FuncId) (ops : Array Oper) (g : Key → V) (o : Oper) (fp : FP) (ws : WS) : Prop :=
  fp.w = keysOf ws ∧ match o.guard with
  | none => ∃ rs, Run C g (evOp cfg fu o) rs ws ∧ ∀ k ∈ rs, k ∈ fp.r
  | some (j, want) => ∃ t, dstOf ops j = some t ∧ Key.s t ∈ fp.r ∧
      ((g (.s t) = .bool want ∧ ∃ rs, Run C g (evOp cfg fu o) rs ws ∧ ∀ k ∈ rs, k ∈ fp.r) ∨ ((g (.s t) = .bool (!want) ∨ g (.s t) = .skip) ∧ ws = dstW o.dst .skip))
theorem OpRun.local {C : CallR} {cfg : Cfg} {fu : FuncId} {ops : Array Oper} {g g' : Key → V} {o : Oper} {fp : FP} {ws : WS} (h : OpRun C cfg fu ops g o fp ws) (hg : ∀ k ∈ fp.r, g' k = g k) : OpRun C cfg fu ops g' o fp ws := by
  obtain ⟨h1, h2⟩ := h
  refine ⟨h1, ?_⟩
  cases hgd : o.guard with
  | none =>
    rw [hgd] at h2
    obtain ⟨rs, h3, h4⟩ := h2
    exact ⟨rs, h3.local (fun k hk => hg k (h4 k hk)), h4⟩
  | some p =>
    obtain ⟨j, want⟩ := p
    rw [hgd] at h2
    obtain ⟨t, h3, h4, h5⟩ := h2
    refine ⟨t, h3, h4, ?_⟩
    rw [hg _ h4]
    rcases h5 with ⟨h5, rs, h6, h7⟩ | h5
    · exact .inl ⟨h5, rs, h6.local (fun k hk => hg k (h7 k hk)), h7⟩
    · exact .inr h5
/-! what some operations write, whichever of them are done -/
theorem gputs_congr : ∀ (ws : WS) {g g' : Key → V} {k : Key}, g k = g' k → gputs g ws k = gputs g' ws k
  | [], _, _, _, h => h
  | (k', v) :: r, g, g', k, h => gputs_congr r (by
    by_cases e : k' = k
    · subst e; rw [gput_self, gput_self]
    · rw [gput_ne _ e, gput_ne _ e, h])
theorem gputs_out : ∀ (ws : WS) {g : Key → V} {k : Key}, k ∉ keysOf ws → gputs g ws k = g k
  | [], _, _, _ => rfl
  | (k', v) :: r, g, k, h => by
    simp only [keysOf, List.map_cons, List.mem_cons, not_or] at h
    show gputs (gput g k' v) r k = g k
    rw [gputs_out r h.2, gput_ne _ (fun e => h.1 e.symm)]
theorem gputs_in : ∀ (ws : WS) {g g' : Key → V} {k : Key}, k ∈ keysOf ws → gputs g ws k = gputs g' ws k
  | [], _, _, _, h => by cases h
  | (k', v) :: r, g, g', k, h => by
    show gputs (gput g k' v) r k = gputs (gput g' k' v) r k
    by_cases e : k' = k
    · subst e; exact gputs_congr r (by rw [gput_self, gput_self])
    · simp only [keysOf, List.map_cons, List.mem_cons] at h
      exact gputs_in r (h.resolve_left (fun h => e h.symm))
def gf (g : Key → V) : List WS → (Nat → Bool) → Nat → (Key → V)
  | [], _, _ => g
  | ws :: r, S, i => gf (if S i = true then gputs g ws else g) r S (i + 1)
theorem gf_congr : ∀ (l : List WS) {g g' : Key → V} {S S' : Nat → Bool} {i : Nat} {k : Key}, g k = g' k → (∀ j ws, l[j]? = some ws → k ∈ keysOf ws → S (i + j) = S' (i + j)) → gf g l S i k = gf g' l S' i k
  | [], _, _, _, _, _, _, h, _ => h
  | ws :: r, g, g', S, S', i, k, h, hS => by
    refine gf_congr r ?_ (fun j ws' hj hk => by rw [show i + 1 + j = i + (j + 1) by omega]; exact hS (j + 1) ws' (by simpa using hj) hk)
    by_cases hk : k ∈ keysOf ws
    · have := hS 0 ws rfl hk
      rw [Nat.add_zero] at this
      rw [this]
      split
      · exact gputs_congr ws h
      · exact h
    · split
      · rw [gputs_out ws hk]
        split
        · rw [gputs_out ws hk]; exact h
        · exact h
      · split
        · rw [gputs_out ws hk]; exact h
        · exact h
theorem gf_in : ∀ (l : List WS) {g g' : Key → V} {S : Nat → Bool} {i j : Nat} {ws : WS} {k : Key}, l[j]? = some ws → S (i + j) = true → k ∈ keysOf ws → (∀ j' ws', j < j' → l[j']? = some ws' → S (i + j') = true → k ∉ keysOf ws') → gf g l S i k = gputs g' ws k
  | [], _, _, _, _, _, _, _, h, _, _, _ => by simp at h
  | ws0 :: r, g, g', S, i, 0, ws, k, h, hS, hk, hl => by
    simp at h; subst h
    rw [Nat.add_zero] at hS
    show gf (if S i = true then gputs g ws0 else g) r S (i + 1) k = _
    rw [if_pos hS]
    have : gf (gputs g ws0) r S (i + 1) k = gf (gputs g ws0) r (fun _ => false) (i + 1) k := gf_congr r rfl (fun j ws' hj hk' => by
      cases hq : S (i + 1 + j) with
      | false => rfl
      | true => exact absurd hk' (hl (j + 1) ws' (by omega) (by simpa using hj) (by rw [show i + (j + 1) = i + 1 + j by omega]; exact hq)))
    rw [this]
    have hnone : ∀ (l : List WS) (g : Key → V) (i : Nat), gf g l (fun _ => false) i = g := by
      intro l
      induction l with
      | nil => intro g i; rfl
      | cons a l ih => intro g i; exact ih g (i + 1)
    rw [hnone]
    exact gputs_in ws0 hk
  | ws0 :: r, g, g', S, i, j + 1, ws, k, h, hS, hk, hl =>
    gf_in r (i := i + 1) (j := j) (by simpa using h) (by rw [show i + 1 + j = i + (j + 1) by omega]; exact hS) hk (fun j' ws' hj' h' hS' => hl (j' + 1) ws' (by omega) (by simpa using h') (by rw [show i + (j' + 1) = i + 1 + j' by omega]; exact hS'))
theorem gf_all : ∀ (l : List WS) (g : Key → V) (S : Nat → Bool) (i : Nat), (∀ j, j < l.length → S (i + j) = true) → gf g l S i = gputs g l.flatten
  | [], _, _, _, _ => rfl
  | ws :: r, g, S, i, h => by
    show gf (if S i = true then gputs g ws else g) r S (i + 1) = _
    rw [if_pos (by have := h 0 (by simp); rwa [Nat.add_zero] at this), gf_all r _ S (i + 1) (fun j hj => by rw [show i + 1 + j = i + (j + 1) by omega]; exact h (j + 1) (by simpa using hj)), List.flatten_cons, gputs_append]
/-! the order -/
theorem hasKey_mem : ∀ {l : List Key} {k : Key}, k ∈ l → hasKey l k = true
  | a :: l, k, h => by
    simp only [hasKey, Bool.or_eq_true]
    rcases List.mem_cons.1 h with e | e
    · exact .inl (by rw [e]; exact Key.eqb_self a)
    · exact .inr (hasKey_mem e)
theorem meet_mem : ∀ {l m : List Key} {k : Key}, k ∈ l → k ∈ m → meet l m = true
  | a :: l, m, k, h, hm => by
    simp only [meet, Bool.or_eq_true]
    rcases List.mem_cons.1 h with e | e
    · exact .inl (by rw [← e]; exact hasKey_mem hm)
    · exact .inr (meet_mem e hm)
theorem clash_ww {a b : FP} {k : Key} (h : k ∈ a.w) (h' : k ∈ b.w) : a.clash b = true := by
  simp only [FP.clash, Bool.or_eq_true]; exact .inl (meet_mem h h')
theorem clash_wr {a b : FP} {k : Key} (h : k ∈ a.w) (h' : k ∈ b.r) : a.clash b = true := by
  simp only [FP.clash, Bool.or_eq_true]; exact .inr (.inl (meet_mem h h'))
theorem clash_rw {a b : FP} {k : Key} (h : k ∈ a.r) (h' : k ∈ b.w) : a.clash b = true := by
  simp only [FP.clash, Bool.or_eq_true]; exact .inr (.inr (meet_mem h h'))
theorem mask_bit : ∀ (es : List Edge) {acc : List Nat} {m j : Nat}, Nat.testBit (maskOf acc es m) j = true → Nat.testBit m j = true ∨ ∃ e ∈ es, Region.binds .any e = true ∧ (e.on = j ∨ Nat.testBit (nthN acc e.on) j = true)
  | [], _, _, _, h => .inl h
  | e :: l, acc, m, j, h => by
    unfold maskOf at h
    split at h
    · rename_i hb
      rcases mask_bit l h with h | ⟨e', he, h⟩
      · have h : Nat.testBit ((m ||| 2 ^ e.on) ||| nthN acc e.on) j = true := h
        rw [Nat.testBit_or, Nat.testBit_or, Bool.or_eq_true, Bool.or_eq_true] at h
        rcases h with (h | h) | h
        · exact .inl h
        · rw [Nat.testBit_two_pow] at h
          exact .inr ⟨e, by simp, hb, .inl (by simpa using h)⟩
        · exact .inr ⟨e, by simp, hb, .inr h⟩
      · exact .inr ⟨e', List.mem_cons_of_mem _ he, h⟩
    · rcases mask_bit l h with h | ⟨e', he, h⟩
      · exact .inl h
      · exact .inr ⟨e', List.mem_cons_of_mem _ he, h⟩
/-- the masks of the operations, one behind the other -/
def masks : List Oper → List Nat → List Nat
  | [], acc => acc
  | o :: os, acc => masks os (acc ++ [maskOf acc o.after.toList 0])
theorem against_spec : ∀ {done : List FP} {mask j : Nat} {a b : FP} {i : Nat}, against mask a j done = true → done[i]? = some b → a.clash b = true → Nat.testBit mask (j + i) = true
  | c :: l, mask, j, a, b, 0, h, hi, hc => by
    simp only [against, Bool.and_eq_true, Bool.or_eq_true] at h
    simp at hi; subst hi
    rcases h.1 with h | h
    · exact h
    · rw [hc] at h; cases h
  | c :: l, mask, j, a, b, i + 1, h, hi, hc => by
    simp only [against, Bool.and_eq_true] at h
    have := against_spec (i := i) h.2 (by simpa using hi) hc
    rwa [show j + 1 + i = j + (i + 1) by omega] at this
  | [], _, _, _, _, _, _, hi, _ => by simp at hi
theorem backs_spec : ∀ {n : Nat} {es : List Edge}, backs n es = true → ∀ e ∈ es, Region.binds .any e = true → e.on < n
  | n, e :: l, h, e', he, hb => by
    simp only [backs, Bool.and_eq_true, Bool.or_eq_true] at h
    rcases List.mem_cons.1 he with q | q
    · subst q
      rcases h.1 with h | h
      · rw [hb] at h; cases h
      · exact Nat.le_of_ble_eq_true h
    · exact backs_spec h.2 e' q hb
/-- what the told order says: those that meet, later behind earlier, are bound -/
theorem orderOk_spec : ∀ {os : List Oper} {fps : List FP} {acc : List Nat} {done : List FP} {S : Nat → Bool}, orderOk os fps acc done = true → os.length = fps.length → acc.length = done.length →
    (∀ i j, i < acc.length → S i = true → Nat.testBit (nthN acc i) j = true → S j = true) →
    (∀ i o, os[i]? = some o → S (acc.length + i) = true → ∀ e ∈ o.after.toList, Region.binds .any e = true → S e.on = true) →
    ∀ i o a, os[i]? = some o → fps[i]? = some a → (∀ e ∈ o.after.toList, Region.binds .any e = true → e.on < acc.length + i) ∧
      ((∀ e ∈ o.after.toList, Region.binds .any e = true → S e.on = true) → ∀ j b, j < acc.length + i → (done ++ fps)[j]? = some b → a.clash b = true → S j = true)
  | [], _, _, _, _, _, _, _, _, _, i, o, a, h, _ => by simp at h
  | o0 :: os, [], _, _, _, _, h, _, _, _, _, _, _, _, _ => by simp at h
  | o0 :: os, a0 :: fps, acc, done, S, h, hl, hld, hacc, hcl, i, o, a, hi, ha => by
    simp only [orderOk, Bool.and_eq_true] at h
    obtain ⟨⟨hb, hag⟩, hrest⟩ := h
    have hbit : (∀ e ∈ o0.after.toList, Region.binds .any e = true → S e.on = true) → ∀ j, Nat.testBit (maskOf acc o0.after.toList 0) j = true → S j = true := by
      intro hS j hj
      rcases mask_bit _ hj with h | ⟨e, he, hbd, h⟩
      · rw [Nat.zero_testBit] at h; cases h
      · rcases h with h | h
        · rw [← h]; exact hS e he hbd
        · exact hacc e.on j (backs_spec hb e he hbd) (hS e he hbd) h
    cases i with
    | zero =>
      simp at hi ha
      subst hi ha
      refine ⟨fun e he hbd => by have := backs_spec hb e he hbd; omega, fun hS j b hj hjb hc => ?_⟩
      rw [List.getElem?_append_left (by omega)] at hjb
      have := against_spec hag hjb hc
      rw [Nat.zero_add] at this
      exact hbit hS j this
    | succ i =>
      have hl1 : (acc ++ [maskOf acc o0.after.toList 0]).length = acc.length + 1 := by simp
      have := orderOk_spec (acc := acc ++ [maskOf acc o0.after.toList 0]) (done := done ++ [a0]) (S := S) hrest (by simpa using hl) (by simp [hld]) (fun i' j hi' hS hj => by
          rw [hl1] at hi'
          by_cases e : i' < acc.length
          · have h1 := nthN_get (l := acc ++ [maskOf acc o0.after.toList 0]) (i := i') (by omega)
            rw [List.getElem?_append_left e, nthN_get e] at h1
            rw [← Option.some.inj h1] at hj
            exact hacc i' j e hS hj
          · have e : i' = acc.length := by omega
            have h1 := nthN_get (l := acc ++ [maskOf acc o0.after.toList 0]) (i := i') (by omega)
            rw [e] at h1 hS
            rw [List.getElem?_append_right (Nat.le_refl _), Nat.sub_self] at h1
            rw [e, ← Option.some.inj h1] at hj
            exact hbit (hcl 0 o0 rfl (by rw [Nat.add_zero]; exact hS)) j hj)
        (fun i' o' hi' hS' => hcl (i' + 1) o' (by simpa using hi') (by rw [hl1] at hS'; rwa [show acc.length + (i' + 1) = acc.length + 1 + i' by omega]))
        i o a (by simpa using hi) (by simpa using ha)
      rw [hl1, show acc.length + 1 + i = acc.length + (i + 1) by omega, List.append_assoc] at this
      exact this
end Go.Proofs.Ytkfphlmbdppbfaa.Vm
