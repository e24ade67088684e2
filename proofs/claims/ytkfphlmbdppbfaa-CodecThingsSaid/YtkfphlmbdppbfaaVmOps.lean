/- The machine's operations are the model's: values. No condition. -/
import Derived.Test.YtkfphlmbdppbfaaVmTab
namespace Go.Proofs.Ytkfphlmbdppbfaa.Vm
open Go Go.RowKit
set_option linter.unusedVariables false
set_option linter.unusedSimpArgs false
section
variable {P : Program} {B : Bs} {X X' : List Nat} {g : Key → V} {n : Nat} {a : Act} {w : World} {M : Mem} {ι : Nat → Nat} {Gs : Key → List Nat} {C : CallR}

def Good (B : Bs) (g : Key → V) (n : Nat) (a : Act) (w : World) : Prop := ∃ M ι Gs, Sim B [] g n a w M ι Gs
theorem const_leaf (E : En) (v : Value) : CR E (constLeaf v) v [] := by
  unfold constLeaf
  split <;> first | exact ⟨rfl, rfl⟩ | exact rfl
theorem const_leaves (E : En) : ∀ vs : List Value, LsR (CR E) (vs.map constLeaf) vs []
  | [] => rfl
  | v :: vs => ⟨[], [], rfl, const_leaf E v, const_leaves E vs⟩
theorem const_VR (E : En) (v : Value) : VR E (constV v) v [] := by
  unfold constV
  split
  · rename_i cs; exact ⟨cs.toList, rfl, const_leaves E cs.toList⟩
  · exact VR_of_CR (const_leaf E v)
theorem const_refs1 (v : Value) : refs2 (constLeaf v) = [] := by unfold constLeaf; split <;> rfl
theorem const_refs (v : Value) : (constV v).refs = [] := by
  unfold constV
  split
  · rename_i cs
    show (cs.toList.map constLeaf).flatMap refs2 = []
    induction cs.toList with
    | nil => rfl
    | cons v l ih => rw [List.map_cons, List.flatMap_cons, ih, const_refs1]; rfl
  · unfold constLeaf; split <;> rfl
/-- an operand's value -/
theorem opnd_sound (hs : Sim B X g n a w M ι Gs) {x : Operand} {v : V} {rs : List Key} (hr : Run C g (opnd x) rs v) :
    ∃ G0, VR (enOf g a (fun k => w.heap[k]?) M ι) v (a.eval x) G0 ∧ G0.Nodup ∧ (∀ b ∈ v.refs, live g b) ∧ ∀ q, keyOf x = some q → g q = v ∧ valAt a (fun k => w.heap[k]?) ι q = some (a.eval x) ∧ Gs q = G0 := by
  cases x with
  | tmp t =>
    obtain ⟨r, _, hr⟩ := hr.rd_inv
    obtain ⟨e, _⟩ := hr.ret_inv
    subst e
    exact ⟨Gs (.s t), hs.slot t, hs.nodup _, hs.refs _, fun q hq => by cases hq; exact ⟨rfl, rfl, rfl⟩⟩
  | const c =>
    obtain ⟨e, _⟩ := hr.ret_inv
    subst e
    exact ⟨[], const_VR _ c, List.nodup_nil, (fun b hb => by rw [const_refs] at hb; cases hb), fun q hq => by cases hq⟩
  | func f =>
    obtain ⟨e, _⟩ := hr.ret_inv
    subst e
    exact ⟨[], ⟨⟨[], rfl, rfl⟩, rfl⟩, List.nodup_nil, (fun b hb => by cases hb), fun q hq => by cases hq⟩
  | global _ => exact hr.fail_inv.elim
theorem inRange_lt {d n : Nat} (h : inRange n (some d) = true) : d < n := Nat.lt_of_lt_of_le (Nat.lt_succ_self d) (Nat.le_of_ble_eq_true h)
/-- an operation that only makes a value -/
theorem Sim.value (hs : Sim B X g n a w M ι Gs) {o : Oper} {u : V} {x : Value} {Gn : List Nat} (hd : inRange n o.dst = true) (hrun : (execOp a.eval o).run P w = .ok (.value x) w)
    (hV : VR (enOf g a (fun k => w.heap[k]?) M ι) u x Gn) (ho : isOld u = false) (hr : ∀ b ∈ u.refs, live g b) (hG : ∀ y ∈ Gn, y ∈ X) (hn : Gn.Nodup) (hu : isUndef u = false) (Q : Exit → Act → World → Prop) :
    o.wp P a w (Good B (gputs g (dstW o.dst u)) n) Q := by
  unfold Oper.wp
  rw [hrun, Oper.upon_value]
  cases hdd : o.dst with
  | none => exact ⟨M, ι, Gs, hs.less (fun x hx => by cases hx)⟩
  | some d =>
    rw [hdd] at hd
    exact ⟨M, ι, _, hs.setSlot (X' := []) (inRange_lt hd) hV ho hr hG hn (fun x hx => by cases hx) (fun h => by rw [h] at hu; cases hu)⟩
theorem Sim.val0 (hs : Sim B X g n a w M ι Gs) {o : Oper} (u : V) (x : Value) (hd : inRange n o.dst = true) (hV : VR (enOf g a (fun k => w.heap[k]?) M ι) u x []) (hrun : (execOp a.eval o).run P w = .ok (.value x) w)
    (ho : isOld u = false) (hr : ∀ b ∈ u.refs, live g b) (hu : isUndef u = false) (Q : Exit → Act → World → Prop) : o.wp P a w (Good B (gputs g (dstW o.dst u)) n) Q :=
  hs.value hd hrun hV ho hr (fun y hy => by cases hy) List.nodup_nil hu Q
theorem gputs_dst (g : Key → V) (ws : WS) (d : Option Nat) (u : V) : gputs g (ws ++ dstW d u) = gputs (gputs g ws) (dstW d u) := gputs_append ws _ g
theorem Gets.put {o : Oper} {ws : WS} {u : V} {x : Value} (h : Gets B X g n a w M ι Gs ws u x) (hd : inRange n o.dst = true) (hrun : (execOp a.eval o).run P w = .ok (.value x) w) (Q : Exit → Act → World → Prop) :
    o.wp P a w (Good B (gputs g (ws ++ dstW o.dst u)) n) Q := by
  obtain ⟨Gn, M', Gs', h1, h2, h3, h4, h5, h6, h7, h8, h9, h10, h11⟩ := h
  rw [gputs_dst]
  exact h1.value hd hrun (h2 _) h8 (fun b hb => by have := h10 b hb; unfold live at this ⊢; rw [h11]; exact this) (fun y hy => List.mem_append_left _ hy) h5 h9 Q
theorem plain_sound (hs : Sim B X g n a w M ι Gs) {x : Operand} {u : V} {ws : WS} {rs : List Key} (hr : Run C g (plain x) rs (u, ws)) : GetsG B X g n a w M ι Gs ws u (a.eval x) [] := by
  obtain ⟨r1, r2, v, _, h1, h2⟩ := hr.bind_inv
  obtain ⟨G0, hV, hn, hrf, hk⟩ := opnd_sound hs h1
  exact plainAt_sound hs hk hV hn hrf h2
theorem reads_lst {M : Mem} {w : World} (hst : ∀ b o v, M b o = some v → w.cell? ⟨b, o, none⟩ = some v) {t : Ty} {xs : List t.den} {v : Value} (h : lstR M t xs v) : ∃ us, rowsR M t xs us ∧ Reads w t.size v xs.length us := by
  obtain ⟨a, c, rfl, hc, hx⟩ := h
  obtain ⟨us, h1, h2⟩ := rowsR_of_lst (k := 0) (fun i x hi => by simpa using hx i x hi)
  refine ⟨us, h1, rowsR_len h1, a, c, rfl, hc, ?_⟩
  cases xs with
  | nil => cases h1; exact .inl rfl
  | cons x xs =>
    obtain ⟨b, o, _, ha, _⟩ := hx 0 x rfl
    refine .inr ⟨b, o, ha, fun j u hj => hst _ _ _ ?_⟩
    have := h2 b o ha j u hj
    rwa [Nat.zero_mul, Nat.add_zero] at this
theorem reads_own {M : Mem} {w : World} (hst : ∀ b o v, M b o = some v → w.cell? ⟨b, o, none⟩ = some v) {t : Ty} {xs : List t.den} {s : Bool} {v : Value} {G : List Nat} (h : ownR M (fun k => w.heap[k]?) t xs s v G) : ∃ us, rowsR M t xs us ∧ Reads w t.size v xs.length us := by
  rcases h with ⟨_, h2, h3⟩ | ⟨_, _, h3, _⟩ | ⟨g, off, cap, cs, e, us, h1, h2, h3, h4, h5, h6, h7, h8, h9, h10⟩
  · subst h2; rw [h3]; exact ⟨[], rfl, Reads.nil w _⟩
  · exact reads_lst hst h3
  · refine ⟨us, h7, rowsR_len h7, _, cap, h2, h4, .inr ⟨g, off, rfl, fun j u hj => ?_⟩⟩
    refine hcell_cell ?_
    unfold hcell
    rw [h3]
    have hj' := (List.getElem?_eq_some_iff.1 hj).1
    rw [← h8, List.getElem?_take, if_pos hj', List.getElem?_drop] at hj
    simpa using hj
/-- a value that is only looked at -/
def Looks (g : Key → V) (a : Act) (w : World) (M : Mem) (ι : Nat → Nat) (u : V) (x : Value) : Prop :=
  (∃ t xs, u = .list t xs .no ∧ ∃ us, rowsR M t xs us ∧ Reads w t.size x xs.length us) ∨ ((∀ t xs o, u ≠ .list t xs o) ∧ isUndef u = false ∧ ∃ G0, VR (enOf g a (fun k => w.heap[k]?) M ι) u x G0)
theorem look_sound (hs : Sim B X g n a w M ι Gs) {x : Operand} {u : V} {rs : List Key} (hr : Run C g (look x) rs u) : Looks g a w M ι u (a.eval x) := by
  obtain ⟨r1, r2, v, _, h1, hr⟩ := hr.bind_inv
  obtain ⟨G0, hV, hn, hrf, hk⟩ := opnd_sound hs h1
  cases v
  case undef => exact hr.fail_inv.elim
  case skip => exact hr.fail_inv.elim
  case dead => exact hr.fail_inv.elim
  case list t xs o =>
    obtain ⟨e, _⟩ := hr.ret_inv
    refine .inl ⟨t, xs, e, ?_⟩
    cases o
    case no => exact reads_lst hs.stable hV.1
    case nil => obtain ⟨⟨h2, h3⟩, _⟩ := hV; subst h2; rw [h3]; exact ⟨[], rfl, Reads.nil w _⟩
    case own s f => exact reads_own hs.stable hV
  case alias q =>
    obtain ⟨r, _, hr⟩ := hr.rd_inv
    split at hr
    · rename_i t xs s hq
      obtain ⟨e, _⟩ := hr.ret_inv
      obtain ⟨v', h2, h3, _⟩ := hs.at (k := q) (by rw [hq]; rfl)
      have hx : a.eval x = v' := hV.1 v' (by simp only [enOf, oldAt]; rw [if_pos (by rw [hq]; rfl)]; exact h2)
      rw [hq] at h3
      rw [hx]
      exact .inl ⟨t, xs, e, reads_own hs.stable h3⟩
    · exact hr.fail_inv.elim
  all_goals (obtain ⟨e, _⟩ := hr.ret_inv; subst e; exact .inr ⟨(fun t xs o e => nomatch e), rfl, G0, hV⟩)

theorem Looks.int {k : IntKind} {m : Int} {x : Value} (h : Looks g a w M ι (.int k m) x) : x = .int k m := by
  rcases h with ⟨t, xs, e, _⟩ | ⟨_, _, G, h⟩
  · cases e
  · exact h.1
theorem Looks.str {s : ByteArray} {x : Value} (h : Looks g a w M ι (.str s) x) : x = .string s := by
  rcases h with ⟨t, xs, e, _⟩ | ⟨_, _, G, h⟩
  · cases e
  · exact h.1
theorem Looks.bool {s : Bool} {x : Value} (h : Looks g a w M ι (.bool s) x) : x = .bool s := by
  rcases h with ⟨t, xs, e, _⟩ | ⟨_, _, G, h⟩
  · cases e
  · exact h.1
theorem Looks.nilp {x : Value} (h : Looks g a w M ι .nilp x) : x = .pointer none := by
  rcases h with ⟨t, xs, e, _⟩ | ⟨_, _, G, h⟩
  · cases e
  · exact h.1
theorem Looks.nils {x : Value} (h : Looks g a w M ι .nils x) : x = .slice none 0 0 := by
  rcases h with ⟨t, xs, e, _⟩ | ⟨_, _, G, h⟩
  · cases e
  · exact h.1
theorem Looks.ref {b off : Nat} {x : Value} (h : Looks g a w M ι (.ref b off) x) : x = .pointer (some ⟨ι b, off, none⟩) := by
  rcases h with ⟨t, xs, e, _⟩ | ⟨_, _, G, h⟩
  · cases e
  · exact h.1
theorem Looks.list {t : Ty} {xs : List t.den} {o : Own} {x : Value} (h : Looks g a w M ι (.list t xs o) x) : ∃ us, rowsR M t xs us ∧ Reads w t.size x xs.length us := by
  rcases h with ⟨t, xs, e, h⟩ | ⟨h, _⟩
  · cases e; exact h
  · exact absurd rfl (h _ _ _)
/-- a leaf as a result -/
def leaf : V → Option Value
  | .int k m => some (.int k m)
  | .bool b => some (.bool b)
  | .str s => some (.string s)
  | _ => none
theorem leaf_VR {E : En} {u : V} {x : Value} (h : leaf u = some x) : VR E u x [] ∧ isOld u = false ∧ keys1 u = [] ∧ u.refs = [] ∧ isUndef u = false := by
  cases u <;> first | (cases h; exact ⟨⟨rfl, rfl⟩, rfl, rfl, rfl, rfl⟩) | cases h
theorem Sim.leaf (hs : Sim B X g n a w M ι Gs) {o : Oper} {u : V} {x : Value} (hd : inRange n o.dst = true) (hl : leaf u = some x) (hrun : (execOp a.eval o).run P w = .ok (.value x) w) (Q : Exit → Act → World → Prop) :
    o.wp P a w (Good B (gputs g (dstW o.dst u)) n) Q := by
  obtain ⟨h1, h2, h3, h4, h5⟩ := leaf_VR (E := enOf g a (fun k => w.heap[k]?) M ι) hl
  exact hs.value hd hrun h1 h2 (fun b hb => by rw [h4] at hb; cases hb) (fun y hy => by cases hy) List.nodup_nil h5 Q
theorem intBin_run {op : BinOp} {k k' : IntKind} {p q : Int} {u : V} (t : TypeId) (h : intBin op k p q = some (true, u)) (hk : k = k' ∨ op = .shl ∨ op = .shr) : ∃ x, leaf u = some x ∧ (binOp op t (.int k p) (.int k' q)).run P w = .ok x w := by
  cases op
  case shl => simp [intBin] at h; obtain ⟨h1, rfl⟩ := h; exact ⟨_, rfl, by simp [binOp, Op.shift, show ¬ q < 0 by omega]⟩
  case shr => simp [intBin] at h; obtain ⟨h1, rfl⟩ := h; exact ⟨_, rfl, by simp [binOp, Op.shift, show ¬ q < 0 by omega]⟩
  all_goals (have hk' : k = k' := by rcases hk with h | h | h <;> first | exact h | cases h)
  all_goals subst hk'
  case quo => simp [intBin] at h; obtain ⟨h1, rfl⟩ := h; exact ⟨_, rfl, by simp [binOp, Op.intDiv, h1]⟩
  case rem => simp [intBin] at h; obtain ⟨h1, rfl⟩ := h; exact ⟨_, rfl, by simp [binOp, Op.intDiv, h1]⟩
  all_goals (simp [intBin] at h; subst h; exact ⟨_, rfl, by simp [go_sem, bne]⟩)
theorem strBin_run {op : BinOp} {p q : ByteArray} {u : V} (t : TypeId) (h : strBin op p q = some (true, u)) : ∃ x, leaf u = some x ∧ (binOp op t (.string p) (.string q)).run P w = .ok x w := by
  cases op
  case add => simp [strBin] at h; obtain ⟨h1, rfl⟩ := h; exact ⟨_, rfl, by simp [binOp, Op.stringOp, show ¬ (9223372036854775807 : Int) < (p.size : Int) + (q.size : Int) by omega]⟩
  all_goals (simp [strBin] at h)
  all_goals (subst h; exact ⟨_, rfl, by simp [binOp, Op.stringOp]⟩)
theorem eq_ptr {t e : TypeId} (p q : Option Addr) (h : P.underlying t = some (.pointer e)) (hn : p = none ∨ q = none) : (Op.equal t (.pointer p) (.pointer q)).run P w = .ok (p.isNone && q.isNone) w := by
  have h1 : ∀ d, (Op.equalIn (d + 1) t (.pointer p) (.pointer q)).run P w = .ok (p.isNone && q.isNone) w := by
    intro d
    cases p with
    | none => cases q <;> simp [Op.equalIn, run_underlying h]
    | some p => cases q with
      | none => simp [Op.equalIn, run_underlying h]
      | some q => rcases hn with h | h <;> cases h
  exact h1 9999
theorem eql_ptr {t e : TypeId} (p q : Option Addr) (h : P.underlying t = some (.pointer e)) (hn : p = none ∨ q = none) : (binOp .eql t (.pointer p) (.pointer q)).run P w = .ok (.bool (p.isNone && q.isNone)) w := by
  simp only [binOp]
  simp [eq_ptr p q h hn]
theorem neq_ptr {t e : TypeId} (p q : Option Addr) (h : P.underlying t = some (.pointer e)) (hn : p = none ∨ q = none) : (binOp .neq t (.pointer p) (.pointer q)).run P w = .ok (.bool (!(p.isNone && q.isNone))) w := by
  simp only [binOp]
  simp [eq_ptr p q h hn]
theorem LsR_at {R : V → Value → List Nat → Prop} : ∀ {vs : List V} {xs : List Value} {G : List Nat} {j : Nat} {u : V}, LsR R vs xs G → vs[j]? = some u → ∃ z G', xs[j]? = some z ∧ R u z G'
  | v :: vs, x :: xs, G, 0, u, ⟨G1, G2, e, h1, h2⟩, hj => by simp at hj; subst hj; exact ⟨x, G1, rfl, h1⟩
  | v :: vs, x :: xs, G, j + 1, u, ⟨G1, G2, e, h1, h2⟩, hj => by
    obtain ⟨z, G', a, b⟩ := LsR_at (j := j) h2 (by simpa using hj)
    exact ⟨z, G', by simpa using a, b⟩
  | [], _, _, _, _, _, hj => by cases hj
  | _ :: _, [], _, _, _, h, _ => h.elim
theorem fieldEq_run {tab : List Row} (hT : tabOk P tab tab = true) {t : TypeId} {r : Row} (hr : rowAt tab t = some r) {x y : V} {b : Bool} (h : fieldEq r x y = some b) :
    ∃ p q, leaf x = some p ∧ leaf y = some q ∧ r.agg = false ∧ r.cks.length = 1 ∧ ∀ d, (Op.equalIn (d + 1) t p q).run P w = .ok b w := by
  unfold fieldEq at h
  obtain ⟨d, h1, h2⟩ := (rowOk_of hT hr).under
  split at h
  · rename_i ha hc
    split at h
    · rename_i e; subst e; cases h
      cases d <;> simp [descOk, ha, hc] at h2
      exact ⟨_, _, rfl, rfl, ha, by rw [hc]; rfl, fun d => run_equalIn_int w d t _ _ _ _ h1⟩
    · cases h
  · rename_i ha hc
    cases h
    cases d <;> simp [descOk, ha, hc] at h2
    exact ⟨_, _, rfl, rfl, ha, by rw [hc]; rfl, fun d => by rw [beq_toListBytes]; exact run_equalIn_string w d t _ _ h1⟩
  · rename_i ha hc
    cases h
    cases d <;> simp [descOk, ha, hc] at h2
    exact ⟨_, _, rfl, rfl, ha, by rw [hc]; rfl, fun d => run_equalIn_bool' w d t _ _ h1⟩
  · cases h
theorem part_leaf {tab : List Row} (hT : tabOk P tab tab = true) {t : TypeId} {r : Row} (hr : rowAt tab t = some r) (ha : r.agg = false) {xs : List Value} {i : Nat} {p : Value} (h : xs[i]? = some p) : (part t xs.toArray i).run P w = .ok p w := by
  unfold part
  rw [Sem.run_bind, isAgg_run (rowOk_of hT hr), ha]
  simp [h]
theorem part_agg {tab : List Row} (hT : tabOk P tab tab = true) {t : TypeId} {r : Row} (hr : rowAt tab t = some r) (ha : r.agg = true) (xs : List Value) (i : Nat) : (part t xs.toArray i).run P w = .ok (.agg ((xs.drop i).take r.cks.length).toArray) w := by
  have e : xs.toArray.extract i (i + r.cks.length) = ((xs.drop i).take r.cks.length).toArray := by
    apply Array.ext'
    simp [List.extract_eq_take_drop]
  have h : (part t xs.toArray i).run P w = .ok (.agg (xs.toArray.extract i (i + r.cks.length))) w := by
    unfold part
    rw [Sem.run_bind, isAgg_run (rowOk_of hT hr), ha]
    simp [sizeOf_run (rowOk_of hT hr)]
  rw [h, e]
theorem fieldsEq_run {tab : List Row} (hT : tabOk P tab tab = true) : ∀ (n d : Nat) {xs ys : List Value} {fs : List (Nat × TypeId)} {fl : List Field} {i : Nat} {us vs : List V} {b : Bool}, fieldsOk tab fs fl = true → (∀ f ∈ fl, f.name ≠ "_") →
    fieldsEq tab n i fs us vs = some b → (∀ j u p, us[j]? = some u → leaf u = some p → xs[i + j]? = some p) → (∀ j u p, vs[j]? = some u → leaf u = some p → ys[i + j]? = some p) →
    (Op.eqFields (d + n) xs.toArray ys.toArray fl).run P w = .ok b w
  | n + 1, d, xs, ys, q :: fs, f :: fl, i, us, vs, b, hf, hn, h, hx, hy => by
    simp only [fieldsOk, Bool.and_eq_true] at hf
    obtain ⟨⟨_, ho, ht⟩, hf⟩ := hf
    have ho := Nat.eq_of_beq_eq_true ho
    have ht := Nat.eq_of_beq_eq_true ht
    unfold fieldsEq at h
    split at h
    case isFalse => cases h
    rename_i hi
    have hi := Nat.eq_of_beq_eq_true hi
    split at h
    case h_2 => cases h
    rename_i r hr
    split at h
    case h_2 => cases h
    rename_i a ha
    have hpart : ∃ p p', (part q.2 xs.toArray i).run P w = .ok p w ∧ (part q.2 ys.toArray i).run P w = .ok p' w ∧ (Op.equalIn (d + n + 1) q.2 p p').run P w = .ok a w := by
      split at ha
      · rename_i fs' hfs
        obtain ⟨k1, k2⟩ := eqFs_eq hfs
        obtain ⟨h1, h2, h3, h4, h5⟩ := under_eq hT hr hfs
        refine ⟨_, _, part_agg hT hr k1 xs i, part_agg hT hr k1 ys i, ?_⟩
        rw [run_equalIn_struct (P := P) w (d + n) q.2 _ _ h1 h2]
        have hin : ∀ {zs : List Value} {ws : List V}, (∀ j u p, ws[j]? = some u → leaf u = some p → zs[i + j]? = some p) →
            ∀ j u p, (ws.take r.cks.length)[j]? = some u → leaf u = some p → ((zs.drop i).take r.cks.length)[0 + j]? = some p := by
          intro zs ws hz j u p hj hl
          rw [List.getElem?_take] at hj
          split at hj
          · rename_i hlt
            rw [Nat.zero_add, List.getElem?_take, if_pos hlt, List.getElem?_drop]
            exact hz j u p hj hl
          · cases hj
        exact fieldsEq_run hT n d h4 h5 ha (hin hx) (hin hy)
      · unfold headEq at ha
        split at ha
        · rename_i x l y m
          obtain ⟨p, p', l1, l2, hg, _, he⟩ := fieldEq_run (P := P) (w := w) hT hr ha
          exact ⟨p, p', part_leaf hT hr hg (hx 0 x p rfl l1), part_leaf hT hr hg (hy 0 y p' rfl l2), he _⟩
        · cases ha
    obtain ⟨p, p', hp, hp', he⟩ := hpart
    have hstep : ∀ b', (Op.eqFields (d + n + 1) xs.toArray ys.toArray fl).run P w = .ok b' w → (Op.eqFields (d + n + 1) xs.toArray ys.toArray (f :: fl)).run P w = .ok (a && b') w := by
      intro b' hb'
      simp only [Op.eqFields, if_pos (hn f (by simp)), ← ho, ← ht, hi, Sem.run_bind, hp, hp', Result.andThen_ok, he]
      cases a
      · simp
      · simpa using hb'
    split at h
    · cases h
      cases fl with
      | cons _ _ => simp [fieldsOk] at hf
      | nil => rw [← Nat.add_assoc, hstep true (by simp [Op.eqFields]), Bool.and_true]
    · rename_i q' fs''
      unfold andEq at h
      split at h
      case h_2 => cases h
      rename_i b' hb'
      cases h
      rw [← Nat.add_assoc]
      refine hstep b' ?_
      rw [show d + n + 1 = (d + 1) + n by omega]
      have hre : ∀ {zs : List Value} {ws : List V}, (∀ j u p, ws[j]? = some u → leaf u = some p → zs[i + j]? = some p) →
            ∀ j u p, (ws.drop r.cks.length)[j]? = some u → leaf u = some p → zs[i + r.cks.length + j]? = some p := by
        intro zs ws hz j u p hj hl
        rw [List.getElem?_drop] at hj
        rw [Nat.add_assoc]
        exact hz _ u p hj hl
      exact fieldsEq_run hT n (d + 1) hf (fun f' h' => hn f' (by simp [h'])) hb' (hre hx) (hre hy)
  | 0, _, _, _, _, _, _, _, _, _, _, _, h, _, _ => by unfold fieldsEq at h; cases h
  | _ + 1, _, _, _, [], _, _, _, _, _, _, _, h, _, _ => by unfold fieldsEq at h; cases h
  | _ + 1, _, _, _, _ :: _, [], _, _, _, _, hf, _, _, _, _ => by cases hf
theorem Looks.agg {us : List V} {x : Value} (h : Looks g a w M ι (.agg us) x) : ∃ xs : List Value, x = .agg xs.toArray ∧ ∀ (j : Nat) (u : V) (p : Value), us[j]? = some u → leaf u = some p → xs[0 + j]? = some p := by
  rcases h with ⟨t, xs, e, _⟩ | ⟨_, _, G, h⟩
  · cases e
  · obtain ⟨vals, e, h⟩ := h
    refine ⟨vals, e, fun j u p hj hl => ?_⟩
    obtain ⟨z, G', h1, h2⟩ := LsR_at h hj
    rw [Nat.zero_add, h1]
    cases u <;> first | (cases hl; exact congrArg some h2.1) | cases hl
theorem binV_run {tab : List Row} (hT : tabOk P tab tab = true) (hs : Sim B X g n a w M ι Gs) {op : BinOp} {p q u : V} {x y : Value} (t : TypeId) (hp : Looks g a w M ι p x) (hq : Looks g a w M ι q y) (h : binV tab (rowOf tab t) op p q = some (true, u)) (ox oy : Operand) :
    ∃ z, leaf u = some z ∧ (do eqGuard op t ox oy x y; binOp op t x y : Sem Value).run P w = .ok z w := by
  unfold binV at h
  split at h
  · rename_i us vs
    obtain ⟨xs, e1, hx⟩ := hp.agg
    obtain ⟨ys, e2, hy⟩ := hq.agg
    subst e1 e2
    split at h
    case h_2 => cases h
    rename_i fs hfs
    split at h
    case h_2 => cases h
    rename_i e he
    obtain ⟨h1, h2, h3, h4, h5⟩ := under_eq hT (rowOf_agg (eqFs_eq hfs).1) hfs
    have hz : (Op.equalIn 10000 t (.agg xs.toArray) (.agg ys.toArray)).run P w = .ok e w := by
      rw [run_equalIn_struct (P := P) w 9999 t _ _ h1 h2]
      exact fieldsEq_run hT 64 9935 h4 h5 he hx hy
    split at h
    · cases h; exact ⟨_, rfl, by rw [Sem.run_bind, run_eqGuard_agg w _ t ox oy _ _ h3, Result.andThen_ok, run_eql_struct, hz]; rfl⟩
    · cases h; exact ⟨_, rfl, by rw [Sem.run_bind, run_eqGuard_agg w _ t ox oy _ _ h3, Result.andThen_ok, run_neq_struct, hz]; rfl⟩
    · cases h
  · rename_i k m k' m'
    rw [hp.int, hq.int]
    have h1 : intBin op k m m' = some (true, u) ∧ (k = k' ∨ op = .shl ∨ op = .shr) := by
      split at h
      · exact ⟨h, .inr (.inl rfl)⟩
      · exact ⟨h, .inr (.inr rfl)⟩
      · split at h
        · exact ⟨h, .inl ‹_›⟩
        · cases h
    obtain ⟨z, e, hz⟩ := intBin_run (P := P) (w := w) t h1.1 h1.2
    exact ⟨z, e, by rw [eqGuard_at_int]; simpa using hz⟩
  · rename_i s s'
    rw [hp.str, hq.str]
    obtain ⟨z, e, hz⟩ := strBin_run (P := P) (w := w) t h
    exact ⟨z, e, by rw [eqGuard_at_string]; simpa using hz⟩
  · rename_i s s'
    rw [hp.bool, hq.bool]
    split at h
    · rename_i hb
      have hu := under_bool hT hb
      cases h; exact ⟨_, rfl, by rw [eqGuard_at_bool]; simpa using run_eql_bool w t s s' hu⟩
    · rename_i hb
      have hu := under_bool hT hb
      cases h; exact ⟨_, rfl, by rw [eqGuard_at_bool]; simpa using run_neq_bool w t s s' hu⟩
    · cases h
  · rw [hp.nilp, hq.nilp]
    split at h
    · rename_i hb
      obtain ⟨e, hu⟩ := under_ptr hT hb
      cases h; exact ⟨_, rfl, by rw [eqGuard_at_pointer]; exact eql_ptr none none hu (.inl rfl)⟩
    · rename_i hb
      obtain ⟨e, hu⟩ := under_ptr hT hb
      cases h; exact ⟨_, rfl, by rw [eqGuard_at_pointer]; exact neq_ptr none none hu (.inl rfl)⟩
    · cases h
  · rw [hp.ref, hq.nilp]
    split at h
    · rename_i hb
      obtain ⟨e, hu⟩ := under_ptr hT hb
      cases h; exact ⟨_, rfl, by rw [eqGuard_at_pointer]; exact eql_ptr _ none hu (.inr rfl)⟩
    · rename_i hb
      obtain ⟨e, hu⟩ := under_ptr hT hb
      cases h; exact ⟨_, rfl, by rw [eqGuard_at_pointer]; exact neq_ptr _ none hu (.inr rfl)⟩
    · cases h
  · rw [hp.nilp, hq.ref]
    split at h
    · rename_i hb
      obtain ⟨e, hu⟩ := under_ptr hT hb
      cases h; exact ⟨_, rfl, by rw [eqGuard_at_pointer]; exact eql_ptr none _ hu (.inl rfl)⟩
    · rename_i hb
      obtain ⟨e, hu⟩ := under_ptr hT hb
      cases h; exact ⟨_, rfl, by rw [eqGuard_at_pointer]; exact neq_ptr none _ hu (.inl rfl)⟩
    · cases h
  · cases h
theorem fit_VR {E : En} {c : CK} {v : V} {x : Value} {G : List Nat} (h : VR E v x G) : VR E (fit c v) x G := by
  unfold fit
  split
  · exact ⟨⟨rfl, h.1⟩, h.2⟩
  · exact h
theorem fit_ne {c : CK} {v : V} : fit c v = v ∨ (v = .nils ∧ ∃ t, fit c v = .list t [] .nil) := by
  unfold fit
  split
  · exact .inr ⟨rfl, _, rfl⟩
  · exact .inl rfl
section
variable {cfg : Cfg} {fu : FuncId} {o : Oper} {rs : List Key} {ws : WS} (hT : tabOk P cfg.tab cfg.tab = true) (hs : Sim B [] g n a w M ι Gs) (hd : inRange n o.dst = true) (hr : Run C g (evOp cfg fu o) rs ws) (Q : Exit → Act → World → Prop)
include hs hd hr
theorem move_sound {x : Operand} (ho : o.op = .move x ∨ o.op = .assign x) : o.wp P a w (Good B (gputs g ws) n) Q := by
  have hrun : (execOp a.eval o).run P w = .ok (.value (a.eval x)) w := by rcases ho with ho | ho <;> simp [execOp, ho]
  have hr : ∃ mv kp : Bool, Run C g ((opnd x).bind fun v => match mv, kp, (match (rowOf cfg.tab o.type).cks with | [k] => fit k v | _ => v), keyOf x with
      | false, false, .list _ _ (.own _ _), some k => .ret (dstW o.dst (.alias k))
      | false, false, .alias k, _ => .ret (dstW o.dst (.alias k))
      | _, _, .ep k t i off, _ => .ret (dstW o.dst (.ep k t i off))
      | true, _, v', k => (moveAt k v').bind fun u => .ret (u.2 ++ dstW o.dst u.1)
      | false, _, v', k => (plainAt k v').bind fun u => .ret (u.2 ++ dstW o.dst u.1)) rs ws := by
    refine ⟨feeds (cfg.mv fu) o.dst, feeds (cfg.keep fu) o.dst, ?_⟩
    rcases ho with ho | ho <;> (simp only [evOp, ho] at hr; exact hr)
  obtain ⟨mv, kp, hr⟩ := hr
  obtain ⟨r1, r2, v, _, h1, hr⟩ := hr.bind_inv
  obtain ⟨G0, hV, hn, hrf, hk⟩ := opnd_sound hs h1
  have hv' : ∃ v', v' = (match (rowOf cfg.tab o.type).cks with | [k] => fit k v | _ => v) ∧ VR (enOf g a (fun k => w.heap[k]?) M ι) v' (a.eval x) G0 ∧ (∀ b ∈ v'.refs, live g b) ∧ (v' = v ∨ ∃ t, v' = .list t [] .nil) := by
    refine ⟨_, rfl, ?_⟩
    split
    · rename_i c _
      refine ⟨fit_VR hV, ?_, ?_⟩
      · rcases fit_ne (c := c) (v := v) with e | ⟨_, t, e⟩
        · rw [e]; exact hrf
        · rw [e]; exact fun b hb => by cases hb
      · rcases fit_ne (c := c) (v := v) with e | ⟨_, t, e⟩
        · exact .inl e
        · exact .inr ⟨t, e⟩
    · exact ⟨hV, hrf, .inl rfl⟩
  obtain ⟨v', e', hV', hrf', hor⟩ := hv'
  rw [← e'] at hr
  have hplain : ∀ {r : List Key} {ws' : WS}, Run C g ((plainAt (keyOf x) v').bind fun u => .ret (u.2 ++ dstW o.dst u.1)) r ws' → o.wp P a w (Good B (gputs g ws') n) Q := by
    intro r ws' h
    obtain ⟨r1, r2, u, _, h2, h3⟩ := h.bind_inv
    obtain ⟨e, _⟩ := h3.ret_inv; subst e
    rcases hor with e | ⟨t, e⟩
    · subst e; exact Gets.put ⟨[], plainAt_sound hs hk hV' hn hrf' h2⟩ hd hrun Q
    · subst e; exact Gets.put ⟨[], plainAt_sound (k := none) hs (fun q hq => by cases hq) hV' hn hrf' h2⟩ hd hrun Q
  have hmove : ∀ {r : List Key} {ws' : WS}, Run C g ((moveAt (keyOf x) v').bind fun u => .ret (u.2 ++ dstW o.dst u.1)) r ws' → o.wp P a w (Good B (gputs g ws') n) Q := by
    intro r ws' h
    obtain ⟨r1, r2, u, _, h2, h3⟩ := h.bind_inv
    obtain ⟨e, _⟩ := h3.ret_inv; subst e
    rcases hor with e | ⟨t, e⟩
    · subst e; exact (moveAt_sound hs hk hV' hn hrf' h2).put hd hrun Q
    · subst e; exact (moveAt_sound (k := none) hs (fun q hq => by cases hq) hV' hn hrf' h2).put hd hrun Q
  split at hr
  · rename_i k hkk _
    obtain ⟨e, _⟩ := hr.ret_inv; subst e
    rcases hor with e | ⟨t', e⟩
    · obtain ⟨h2, h3, h4⟩ := hk k hkk
      refine hs.value hd hrun (u := .alias k) (Gn := []) ⟨fun v' hv => ?_, rfl⟩ rfl (fun b hb => by cases hb) (fun y hy => by cases hy) List.nodup_nil rfl Q
      simp only [enOf, oldAt] at hv
      split at hv
      · rw [h3] at hv; cases hv; rfl
      · cases hv
    · cases e
  · obtain ⟨e, _⟩ := hr.ret_inv; subst e
    exact hs.value hd hrun (Gn := []) (by rw [hV'.2] at hV'; exact hV') rfl (fun b hb => by cases hb) (fun y hy => by cases hy) List.nodup_nil rfl Q
  · obtain ⟨e, _⟩ := hr.ret_inv; subst e
    exact hs.value hd hrun (Gn := []) (by rw [hV'.2] at hV'; exact hV') rfl (fun b hb => by cases hb) (fun y hy => by cases hy) List.nodup_nil rfl Q
  · exact hmove hr
  · exact hplain hr
theorem pick_sound {c x y : Operand} (ho : o.op = .pick c x y) : o.wp P a w (Good B (gputs g ws) n) Q := by
  simp only [evOp, ho] at hr
  obtain ⟨r1, r2, v, _, h1, hr⟩ := hr.bind_inv
  obtain ⟨G0, hV, hn, hrf, hk⟩ := opnd_sound hs h1
  split at hr
  · rename_i t
    have hc : a.eval c = .bool t := hV.1
    rcases hr.br_inv with ⟨ht, hr⟩ | ⟨ht, hr⟩
    · obtain ⟨r1, r2, u, _, h2, h3⟩ := hr.bind_inv
      obtain ⟨e, _⟩ := h3.ret_inv; subst e
      exact Gets.put ⟨[], plain_sound hs h2⟩ hd (by simp [execOp, ho, hc, ht, asBool]) Q
    · obtain ⟨r1, r2, u, _, h2, h3⟩ := hr.bind_inv
      obtain ⟨e, _⟩ := h3.ret_inv; subst e
      exact Gets.put ⟨[], plain_sound hs h2⟩ hd (by simp [execOp, ho, hc, ht, asBool]) Q
  · exact hr.fail_inv.elim
include hT in
theorem binOp_sound {op : BinOp} {t : TypeId} {x y : Operand} {yt : TypeId} (ho : o.op = .binOp op t x y yt) : o.wp P a w (Good B (gputs g ws) n) Q := by
  simp only [evOp, ho] at hr
  obtain ⟨_, _, u, _, h1, hr⟩ := hr.bind_inv
  obtain ⟨_, _, v, _, h2, hr⟩ := hr.bind_inv
  obtain ⟨r, h3, hr⟩ := hr.opt_inv
  obtain ⟨h4, hr⟩ := hr.guard_inv
  obtain ⟨e, _⟩ := hr.ret_inv; subst e
  obtain ⟨b, z⟩ := r
  subst h4
  obtain ⟨zv, hl, hz⟩ := binV_run (P := P) hT hs t (look_sound hs h1) (look_sound hs h2) h3 x y
  exact hs.leaf hd hl (by simp only [execOp, ho]; rw [Sem.run_bind]; rw [hz]; simp) Q
end
end
end Go.Proofs.Ytkfphlmbdppbfaa.Vm
