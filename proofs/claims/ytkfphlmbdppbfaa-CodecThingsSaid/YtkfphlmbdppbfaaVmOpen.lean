/- Arguments that can be read as data are what the machine takes. No condition. -/
import Derived.Test.YtkfphlmbdppbfaaVmLaw
import Derived.Test.YtkfphlmbdppbfaaRowLib
import Derived.Deep.Slices
namespace Go.Proofs.Ytkfphlmbdppbfaa.Vm
open Go Go.RowKit Go.ChangeShapes Go.WideShapes Go.ChangeAt Go.Deep
set_option linter.unusedVariables false
set_option linter.unusedSimpArgs false
def tyOf (tab : List Row) (t : TypeId) : Ty := (rowOf tab t).ty
def tyFs (tab : List Row) : List (Nat × TypeId) → Ty
  | [] => .unit
  | [q] => tyOf tab q.2
  | q :: l => .pair (tyOf tab q.2) (tyFs tab l)
def offs (tab : List Row) : Nat → List (Nat × TypeId) → Bool
  | _, [] => true
  | o, q :: l => Nat.beq q.1 o && offs tab (o + (rowOf tab q.2).cks.length) l
def tyB (a b : Ty) : Bool := match Ty.eq? a b with
  | some _ => true
  | none => false
theorem tyB_eq {a b : Ty} (h : tyB a b = true) : a = b := by
  unfold tyB at h; split at h
  · rename_i h' _; exact h'.down
  · cases h
def flatB (r : Row) : Bool := match r.agg, r.cks, r.ty with
  | false, [.int k], .int k' => decide (k = k')
  | false, [.bool], .bool => true
  | false, [.str], .str => true
  | _, _, _ => false
/-- can a type's data be taken -/
def opOk (tab : List Row) : Nat → TypeId → Bool
  | 0, _ => false
  | n + 1, t => match rowAt tab t with
    | none => false
    | some r => !r.cks.isEmpty && (cksEq r.cks (cksTy r.ty) && (match r.sub with
      | .flat => flatB r
      | .slice e => tyB r.ty (.list (tyOf tab e)) && opOk tab n e
      | .struct fs => tyB r.ty (tyFs tab fs) && (offs tab 0 fs && fs.all fun q => opOk tab n q.2)
      | .arr _ _ => false))
/-- numbers of their kinds, texts and lists that can be -/
def wfT : (t : Ty) → t.den → Prop
  | .int k, n => (Lit.int k n).wf = true
  | .bool, _ => True
  | .str, s => ByteArray.size s ≤ maxLen
  | .unit, _ => True
  | .pair a b, x => wfT a x.1 ∧ wfT b x.2
  | .list t, xs => List.length (α := t.den) xs ≤ maxLen ∧ ∀ x : t.den, x ∈ (show List t.den from xs) → wfT t x
theorem opOk_row {tab : List Row} : ∀ {n : Nat} {t : TypeId}, opOk tab n t = true → ∃ r, rowAt tab t = some r ∧ rowOf tab t = r ∧ r.cks ≠ [] ∧ r.cks = cksTy r.ty
  | 0, t, h => by cases h
  | n + 1, t, h => by
    unfold opOk at h
    split at h
    · cases h
    · rename_i r hr
      simp only [Bool.and_eq_true, Bool.not_eq_true'] at h
      have hne : r.cks ≠ [] := fun e => by rw [e] at h; exact absurd h.1 (by simp)
      refine ⟨r, hr, ?_, hne, cksEq_eq h.2.1⟩
      have hw : ∀ (l : List Row), rowAt l t = some r → rowOf l t = r := by
        intro l
        induction l with
        | nil => intro h; cases h
        | cons a l ih =>
          intro h
          unfold rowAt at h
          unfold rowOf
          split at h
          · rename_i e; rw [if_pos e]; exact Option.some.inj h
          · rename_i e; rw [if_neg e]; exact ih h
      exact hw tab hr
section
variable {H : Type} {enc : TypeId × Value → H} {P : Program} {W : World} {base : Nat} {spare : Nat → Bool} {held : Bool} {tab : List Row}
theorem cells_row (hT : tabOk P tab tab = true) {t : TypeId} {r : Row} (hr : rowAt tab t = some r) : P.cellsOf t = r.cks.length := by
  obtain ⟨i, h1, h2, _⟩ := (rowOk_of hT hr).info
  simp [Program.cellsOf, h1, h2]
/-- a slice of data -/
theorem open_list {ty : Ty} {s : Nat} (hs : 0 < s) (hsz : ty.size = s) {t e : TypeId} {fuel : Nat} {cs : List Value} {dd : DataW H × List MemPlace}
    (hu : P.underlying t = some (.slice e)) (hc : P.cellsOf e = s) (each : ∀ (n : Nat) (cs : List Value) (y : DataW H × List MemPlace), cs.length = s → DataW.trod enc P W base spare held n e cs = some y → ∃ x : ty.den, datR (memOf W) ty x cs ∧ wfT ty x)
    (h : DataW.trod enc P W base spare held fuel t cs = some dd) : ∃ xs : List ty.den, datR (memOf W) (.list ty) xs cs ∧ wfT (.list ty) xs := by
  rcases open_slice hu h with ⟨hcs, _⟩ | ⟨x, l, c, m, n, D, Pl, hcs, _, hl, hcm, hm, hx, hel⟩
  · subst hcs
    exact ⟨[], ⟨_, rfl, lstR_nil _ _ _⟩, Nat.zero_le _, fun x hx => by cases hx⟩
  · subst hcs
    have hlm : l ≤ m := by rw [hm]; split <;> omega
    have get : ∀ i, ∃ p : ty.den × List Value, i < m → datR (memOf W) ty p.1 p.2 ∧ wfT ty p.1 ∧ p.2.length = s ∧ ∀ k, k < s → W.cell? ((x.add (i * s)).add k) = p.2[k]? := by
      intro i
      by_cases hi : i < m
      · obtain ⟨cs', h1, h2⟩ := hel i hi
        rw [hc] at h1
        obtain ⟨_, hl2, hcell⟩ := World.cells?_some h1
        obtain ⟨y, hy, hw⟩ := each n cs' _ hl2 h2
        exact ⟨(y, cs'), fun _ => ⟨hy, hw, hl2, hcell⟩⟩
      · exact ⟨(ty.zero, []), fun h => absurd h hi⟩
    obtain ⟨F, hF⟩ := Classical.axiomOfChoice get
    have hlen : ((List.range l).map fun i => (F i).1).length = l := by simp
    have hsp : 0 < l → x.spot = none := by
      intro h0
      obtain ⟨_, _, hl2, hcell⟩ := hF 0 (by omega)
      have hcell0 := hcell 0 hs
      have hx0 : (x.add (0 * s)).add 0 = x := by rw [Nat.zero_mul]; unfold Addr.add; simp
      rw [hx0, List.getElem?_eq_getElem (by omega)] at hcell0
      unfold World.cell? at hcell0
      split at hcell0
      · split at hcell0
        · cases hcell0
        · rename_i hsp
          simpa using hsp
      · cases hcell0
    refine ⟨(List.range l).map fun i => (F i).1, ⟨_, rfl, some x, c, by rw [hlen], by rw [hlen]; exact hl, fun i y hi => ?_⟩, by rw [hlen]; omega, fun y hy => ?_⟩
    · have hil : i < l := by
        have := (List.getElem?_eq_some_iff.1 hi).1
        rw [hlen] at this; exact this
      have hy : (F i).1 = y := by
        have h1 : ((List.range l).map fun i => (F i).1)[i]? = some (F i).1 := by rw [List.getElem?_map, List.getElem?_range hil]; rfl
        exact Option.some.inj (h1.symm.trans hi)
      obtain ⟨q1, q2, q3, q4⟩ := hF i (by omega)
      obtain ⟨xb, xo, xs⟩ := x
      obtain rfl : xs = none := hsp (by omega)
      refine ⟨xb, xo, (F i).2, rfl, by rw [← hy]; exact q1, fun j u hj => ?_⟩
      have hjs : j < s := by rw [← q3]; exact (List.getElem?_eq_some_iff.1 hj).1
      have := q4 j hjs
      rw [addr_add, addr_add, hj] at this
      rw [hsz]; exact this
    · obtain ⟨i, hi, rfl⟩ := List.mem_map.1 hy
      exact (hF i (by have := List.mem_range.1 hi; omega)).2.1
theorem tyFs_size : ∀ {fs : List (Nat × TypeId)}, (∀ q ∈ fs, (rowOf tab q.2).cks = cksTy (rowOf tab q.2).ty) → (tyFs tab fs).size = (fs.map fun q => (rowOf tab q.2).cks.length).sum
  | [], _ => rfl
  | [q], h => by
    show (tyOf tab q.2).size = _
    have := h q (by simp)
    simp [tyOf, this, cksTy_len]
  | q :: q2 :: l, h => by
    have h1 := h q (by simp)
    have h2 := tyFs_size (fs := q2 :: l) (fun x hx => h x (List.mem_cons_of_mem _ hx))
    show (tyOf tab q.2).size + (tyFs tab (q2 :: l)).size = _
    rw [h2]
    simp only [List.map_cons, List.sum_cons, h1, cksTy_len, tyOf]
theorem open_fields (hT : tabOk P tab tab = true) {n : Nat} {cs : List Value} {m : Nat}
    (ih : ∀ {t : TypeId} {r : Row} {fuel : Nat} {cs : List Value} {x : DataW H × List MemPlace}, opOk tab n t = true → rowAt tab t = some r → cs.length = r.cks.length → DataW.trod enc P W base spare held fuel t cs = some x → ∃ y : r.ty.den, datR (memOf W) r.ty y cs ∧ wfT r.ty y) :
    ∀ {fs : List (Nat × TypeId)} {o : Nat}, offs tab o fs = true → (∀ q ∈ fs, opOk tab n q.2 = true) → o + (fs.map fun q => (rowOf tab q.2).cks.length).sum ≤ cs.length →
      (∀ q ∈ fs, ∃ z, DataW.trod enc P W base spare held m q.2 ((cs.drop q.1).take (P.cellsOf q.2)) = some z) →
      ∃ y : (tyFs tab fs).den, datR (memOf W) (tyFs tab fs) y ((cs.drop o).take ((fs.map fun q => (rowOf tab q.2).cks.length).sum)) ∧ wfT (tyFs tab fs) y
  | [], o, _, _, _, _ => ⟨(), by simp [tyFs, datR], trivial⟩
  | q :: l, o, ho, hall, hle, hz => by
    simp only [offs, Bool.and_eq_true] at ho
    have e0 := Nat.eq_of_beq_eq_true ho.1
    have hq := hall q (by simp)
    obtain ⟨r, hr, hrr, hne, hck⟩ := opOk_row hq
    rw [List.map_cons, List.sum_cons, hrr] at hle
    rw [hrr] at ho
    obtain ⟨z, hz0⟩ := hz q (by simp)
    rw [e0, cells_row hT hr] at hz0
    have hlen : ((cs.drop o).take r.cks.length).length = r.cks.length := by rw [List.length_take, List.length_drop]; omega
    obtain ⟨y, hy, hw⟩ := ih hq hr hlen hz0
    cases l with
    | nil =>
      have e : tyFs tab [q] = r.ty := by show tyOf tab q.2 = _; unfold tyOf; rw [hrr]
      rw [e]
      exact ⟨y, by simpa [hrr] using hy, hw⟩
    | cons q2 l =>
      obtain ⟨y2, hy2, hw2⟩ := open_fields hT ih ho.2 (fun x hx => hall x (List.mem_cons_of_mem _ hx)) (by omega) (fun x hx => hz x (List.mem_cons_of_mem _ hx))
      have e : tyFs tab (q :: q2 :: l) = .pair r.ty (tyFs tab (q2 :: l)) := by show Ty.pair (tyOf tab q.2) _ = _; unfold tyOf; rw [hrr]
      rw [e]
      refine ⟨(y, y2), ⟨_, _, ?_, hy, hy2⟩, hw, hw2⟩
      rw [List.map_cons, List.sum_cons, hrr, List.take_add, List.drop_drop]
theorem open_any (hT : tabOk P tab tab = true) : ∀ (n : Nat) {t : TypeId} {r : Row} {fuel : Nat} {cs : List Value} {x : DataW H × List MemPlace}, opOk tab n t = true → rowAt tab t = some r → cs.length = r.cks.length → DataW.trod enc P W base spare held fuel t cs = some x →
    ∃ y : r.ty.den, datR (memOf W) r.ty y cs ∧ wfT r.ty y
  | 0, t, r, fuel, cs, x, ho, _, _, _ => by cases ho
  | n + 1, t, r, fuel, cs, x, ho, hrow, hl, h => by
    obtain ⟨r', hr', hrr, hne, hck⟩ := opOk_row ho
    rw [hrow] at hr'; cases hr'
    unfold opOk at ho
    rw [hrow] at ho
    simp only [Bool.and_eq_true] at ho
    obtain ⟨_, _, ho⟩ := ho
    obtain ⟨d, hu, hdesc⟩ := (rowOk_of hT hrow).under
    cases hsub : r.sub with
    | flat =>
      rw [hsub] at ho
      have ho : flatB r = true := ho
      unfold flatB at ho
      split at ho
      · rename_i k k' ha hk hty
        have ho := of_decide_eq_true ho
        subst ho
        have hd : d = .int k := by cases d <;> simp [descOk, ha, hk, hsub] at hdesc <;> first | exact hdesc.symm ▸ rfl | (obtain rfl := hdesc; rfl)
        subst hd
        obtain ⟨z, e1, _, hw⟩ := DataW.trod_int hu h
        subst e1
        rw [hty]
        exact ⟨z, rfl, hw⟩
      · rename_i ha hk hty
        have hd : d = .bool := by cases d <;> simp [descOk, ha, hk, hsub] at hdesc <;> rfl
        subst hd
        obtain ⟨z, e1, _⟩ := DataW.trod_bool hu h
        subst e1
        rw [hty]
        exact ⟨z, rfl, trivial⟩
      · rename_i ha hk hty
        have hd : d = .string := by cases d <;> simp [descOk, ha, hk, hsub] at hdesc <;> rfl
        subst hd
        obtain ⟨z, e1, _, hw⟩ := DataW.trod_string hu h
        subst e1
        rw [hty]
        exact ⟨z, rfl, hw⟩
      · cases ho
    | slice e =>
      rw [hsub] at ho
      have ho : (tyB r.ty (.list (tyOf tab e)) && opOk tab n e) = true := ho
      rw [Bool.and_eq_true] at ho
      have hty := tyB_eq ho.1
      obtain ⟨er, her, herr, hene, heck⟩ := opOk_row ho.2
      obtain ⟨hus, _⟩ := under_slice hT hrow hsub
      have e1 : tyOf tab e = er.ty := by unfold tyOf; rw [herr]
      rw [e1] at hty
      rw [hty]
      exact open_list (s := er.cks.length) (Nat.pos_of_ne_zero fun h0 => hene (List.eq_nil_of_length_eq_zero h0)) (by rw [heck, cksTy_len]) hus (cells_row hT her) (fun n' cs' y hl' h' => open_any hT n ho.2 her hl' h') h
    | struct fs =>
      rw [hsub] at ho
      have ho : (tyB r.ty (tyFs tab fs) && (offs tab 0 fs && fs.all fun q => opOk tab n q.2)) = true := ho
      simp only [Bool.and_eq_true] at ho
      obtain ⟨h1, h2, h3⟩ := ho
      have hty := tyB_eq h1
      rw [List.all_eq_true] at h3
      cases d <;> simp [descOk, hsub] at hdesc
      rename_i fields
      obtain ⟨xs, m, _, _, _, hlen, hf⟩ := DataW.trod_struct hu h
      have hsum : (fs.map fun q => (rowOf tab q.2).cks.length).sum = r.cks.length := by
        rw [← tyFs_size (fun q hq => by obtain ⟨_, _, e, _, h⟩ := opOk_row (h3 q hq); rw [e]; exact h), ← hty, hck, cksTy_len]
      obtain ⟨y, hy, hw⟩ := open_fields hT (fun a b c d => open_any hT n a b c d) (cs := cs) (m := m) h2 h3 (by rw [hsum, hl]; omega) (fun q hq => by
        obtain ⟨i, hi⟩ := List.mem_iff_getElem?.1 hq
        obtain ⟨f, hfi, hoff, htyp, _⟩ := fieldsOk_at hdesc.2 hi
        rw [Array.getElem?_toList] at hfi
        have := hf i f hfi
        rw [hoff, htyp] at this
        have hil : i < xs.length := by rw [hlen]; have := (Array.getElem?_eq_some_iff.1 hfi).1; simpa using this
        exact ⟨xs[i], by rw [this, List.getElem?_eq_getElem hil]⟩)
      rw [hsum, List.drop_zero, ← hl, List.take_length] at hy
      rw [hty]
      exact ⟨y, hy, hw⟩
    | arr m e => rw [hsub] at ho; cases ho
end
end Go.Proofs.Ytkfphlmbdppbfaa.Vm
