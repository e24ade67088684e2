/- The rows of types against the program's. No condition. -/
import Derived.Test.YtkfphlmbdppbfaaVmGets
import Derived.Laws.StructEq
namespace Go.Proofs.Ytkfphlmbdppbfaa.Vm
open Go Go.RowKit
set_option linter.unusedVariables false
set_option linter.unusedSimpArgs false

/-- the cells of an element -/
def cksTy : Ty → List CK
  | .int k => [.int k]
  | .bool => [.bool]
  | .str => [.str]
  | .unit => []
  | .pair a b => cksTy a ++ cksTy b
  | .list t => [.list t]
def ckEq : CK → CK → Bool
  | .int k, .int k' => decide (k = k')
  | .bool, .bool => true
  | .str, .str => true
  | .list t, .list t' => (Ty.eq? t t').isSome
  | .ptr, .ptr => true
  | .fn, .fn => true
  | _, _ => false
def cksEq : List CK → List CK → Bool
  | [], [] => true
  | a :: l, b :: m => ckEq a b && cksEq l m
  | _, _ => false
theorem ckEq_eq : ∀ {a b : CK}, ckEq a b = true → a = b
  | .int k, .int k', h => by rw [of_decide_eq_true h]
  | .bool, .bool, _ => rfl
  | .str, .str, _ => rfl
  | .list t, .list t', h => by
    have h : (Ty.eq? t t').isSome = true := h
    cases e : Ty.eq? t t' with
    | none => rw [e] at h; cases h
    | some p => rw [p.down]
  | .ptr, .ptr, _ => rfl
  | .fn, .fn, _ => rfl
theorem cksEq_eq : ∀ {a b : List CK}, cksEq a b = true → a = b
  | [], [], _ => rfl
  | a :: l, b :: m, h => by
    simp only [cksEq, Bool.and_eq_true] at h
    rw [ckEq_eq h.1, cksEq_eq h.2]
def zeroOk : CK → Value → Bool
  | .int k, .int k' n => decide (k = k') && (match n with | .ofNat 0 => true | _ => false)
  | .bool, .bool b => !b
  | .str, .string s => Nat.beq s.data.toList.length 0
  | .list _, .slice none 0 0 => true
  | .ptr, .pointer none => true
  | .fn, .nilFunc => true
  | _, _ => false
theorem zeroOk_eq {c : CK} {v : Value} (h : zeroOk c v = true) : v = c.zeroVal := by
  unfold zeroOk at h
  split at h
  · rename_i k k' n
    rw [Bool.and_eq_true] at h
    obtain ⟨h1, h2⟩ := h
    rw [of_decide_eq_true h1]
    split at h2
    · rfl
    · cases h2
  · cases ‹Bool› <;> first | rfl | cases h
  · rename_i s
    have h1 := Nat.eq_of_beq_eq_true h
    have h2 : s.data.toList = [] := List.eq_nil_of_length_eq_zero h1
    obtain ⟨⟨l⟩⟩ := s
    simp at h2; subst h2; rfl
  · rfl
  · rfl
  · rfl
  · cases h
def zerosOk : List CK → List Value → Bool
  | [], [] => true
  | a :: l, b :: m => zeroOk a b && zerosOk l m
  | _, _ => false
theorem zerosOk_eq : ∀ {a : List CK} {b : List Value}, zerosOk a b = true → b = a.map CK.zeroVal
  | [], [], _ => rfl
  | a :: l, b :: m, h => by
    simp only [zerosOk, Bool.and_eq_true] at h
    rw [zeroOk_eq h.1, zerosOk_eq h.2]; rfl
def zeroOf (r : Row) : Option Value → Bool
  | some (.agg cs) => r.agg && zerosOk r.cks cs.toList
  | some v => !r.agg && zerosOk r.cks [v]
  | none => false
def someCell (tab : List Row) (t : TypeId) : Bool := match rowAt tab t with
  | some r => !r.cks.isEmpty
  | none => false
def fieldsOk (tab : List Row) : List (Nat × TypeId) → List Field → Bool
  | [], [] => true
  | a :: l, f :: m => (someCell tab a.2 && (Nat.beq a.1 f.offset && Nat.beq a.2 f.type)) && fieldsOk tab l m
  | _, _ => false
theorem fieldsOk_at {tab : List Row} : ∀ {a : List (Nat × TypeId)} {b : List Field} {i : Nat} {q : Nat × TypeId}, fieldsOk tab a b = true → a[i]? = some q →
    ∃ f, b[i]? = some f ∧ f.offset = q.1 ∧ f.type = q.2 ∧ ∃ r, rowAt tab q.2 = some r ∧ r.cks ≠ []
  | [], [], i, q, _, hq => by cases hq
  | a :: l, f :: m, 0, q, h, hq => by
    simp only [fieldsOk, Bool.and_eq_true] at h
    simp at hq; subst hq
    refine ⟨f, rfl, (Nat.eq_of_beq_eq_true h.1.2.1).symm, (Nat.eq_of_beq_eq_true h.1.2.2).symm, ?_⟩
    have h1 := h.1.1
    unfold someCell at h1
    split at h1
    · rename_i r hr
      refine ⟨r, hr, fun e => ?_⟩
      rw [e] at h1; cases h1
    · cases h1
  | a :: l, f :: m, i + 1, q, h, hq => by
    simp only [fieldsOk, Bool.and_eq_true] at h
    exact fieldsOk_at (i := i) h.2 (by simpa using hq)
def elemOk (tab : List Row) (e : TypeId) : Bool := match rowAt tab e with
  | some er => cksEq er.cks (cksTy er.ty)
  | none => false
def descOk (tab : List Row) (r : Row) : TypeDesc → Bool
  | .struct fields => r.agg && (match r.sub with
    | .struct fs => fieldsOk tab fs fields.toList
    | .flat => true
    | _ => false)
  | .array n e => r.agg && (match r.sub with
    | .arr n' e' => Nat.beq n n' && Nat.beq e e'
    | .flat => true
    | _ => false)
  | .slice e => !r.agg && ((match r.cks with
    | [.list t] => (match rowAt tab e with
      | some er => (Ty.eq? er.ty t).isSome && cksEq er.cks (cksTy er.ty)
      | none => false)
    | _ => false) && (match r.sub with
    | .slice e' => Nat.beq e e'
    | .flat => true
    | _ => false))
  | .int k => !r.agg && ((match r.cks with
    | [.int k'] => decide (k = k')
    | _ => false) && (match r.sub with
    | .flat => true
    | _ => false))
  | .bool => !r.agg && ((match r.cks with
    | [.bool] => true
    | _ => false) && (match r.sub with
    | .flat => true
    | _ => false))
  | .string => !r.agg && ((match r.cks with
    | [.str] => true
    | _ => false) && (match r.sub with
    | .flat => true
    | _ => false))
  | .pointer _ => !r.agg && ((match r.cks with
    | [.ptr] => true
    | _ => false) && (match r.sub with
    | .flat => true
    | _ => false))
  | .func _ _ _ => !r.agg && ((match r.cks with
    | [.fn] => true
    | _ => false) && (match r.sub with
    | .flat => true
    | _ => false))
  | _ => false
def namedOk : List Field → Bool
  | [] => true
  | f :: l => f.name != "_" && namedOk l
/-- what '==' of a struct wants: the struct is the program's own, no field is blank -/
def eqOk (P : Program) (r : Row) : TypeDesc → Bool
  | .struct fields => match eqFs r with
    | some _ => !P.stoodInHeld r.id && (!P.eqGuardType P.depth r.id && namedOk fields.toList)
    | none => true
  | _ => true
def rowOk (P : Program) (tab : List Row) (r : Row) : Bool := match P.info? r.id, P.underlying r.id with
  | some i, some d => (Nat.beq i.size r.cks.length && Nat.beq i.bytes r.bytes) && (zeroOf r i.zero && (descOk tab r d && eqOk P r d))
  | _, _ => false
def tabOk (P : Program) (tab : List Row) : List Row → Bool
  | [] => true
  | r :: l => rowOk P tab r && tabOk P tab l
/-- what a row says of its type -/
structure RowOk (P : Program) (tab : List Row) (r : Row) (t : TypeId) : Prop where
  info : ∃ i, P.info? t = some i ∧ i.size = r.cks.length ∧ i.bytes = r.bytes ∧ ((r.agg = true ∧ i.zero = some (.agg (r.cks.map CK.zeroVal).toArray)) ∨ (r.agg = false ∧ ∃ c, r.cks = [c] ∧ i.zero = some c.zeroVal))
  under : ∃ d, P.underlying t = some d ∧ descOk tab r d = true
  eq : ∃ d, P.underlying t = some d ∧ descOk tab r d = true ∧ eqOk P r d = true
  id : r.id = t
theorem rowAt_id : ∀ {l : List Row} {t : TypeId} {r : Row}, rowAt l t = some r → r.id = t ∧ r ∈ l
  | [], _, _, h => by cases h
  | a :: l, t, r, h => by
    unfold rowAt at h
    split at h
    · rename_i e; cases h; exact ⟨Nat.eq_of_beq_eq_true e, by simp⟩
    · obtain ⟨h1, h2⟩ := rowAt_id h; exact ⟨h1, List.mem_cons_of_mem _ h2⟩
theorem tabOk_mem {P : Program} {tab : List Row} : ∀ {l : List Row}, tabOk P tab l = true → ∀ r ∈ l, rowOk P tab r = true
  | [], _, r, h => by cases h
  | a :: l, h, r, hr => by
    simp only [tabOk, Bool.and_eq_true] at h
    rcases List.mem_cons.1 hr with e | e
    · rw [e]; exact h.1
    · exact tabOk_mem h.2 r e
theorem rowOk_of {P : Program} {tab : List Row} (h : tabOk P tab tab = true) {t : TypeId} {r : Row} (hr : rowAt tab t = some r) : RowOk P tab r t := by
  obtain ⟨h1, h2⟩ := rowAt_id hr
  have h3 := tabOk_mem h r h2
  unfold rowOk at h3
  rw [h1] at h3
  split at h3
  · rename_i i d hi hd
    simp only [Bool.and_eq_true] at h3
    obtain ⟨⟨h4, h5⟩, h6, h7, h9⟩ := h3
    refine ⟨⟨i, hi, Nat.eq_of_beq_eq_true h4, Nat.eq_of_beq_eq_true h5, ?_⟩, ⟨d, hd, h7⟩, ⟨d, hd, h7, h9⟩, h1⟩
    unfold zeroOf at h6
    split at h6
    · rename_i cs hz
      rw [Bool.and_eq_true] at h6
      refine .inl ⟨h6.1, ?_⟩
      have := zerosOk_eq h6.2
      rw [hz, ← this]
    · rename_i v hz
      rw [Bool.and_eq_true] at h6
      refine .inr ⟨by simpa using h6.1, ?_⟩
      have h8 := zerosOk_eq h6.2
      cases hc : r.cks with
      | nil => rw [hc] at h8; cases h8
      | cons c l =>
        rw [hc] at h8
        cases l with
        | nil => simp at h8; exact ⟨c, rfl, by rw [hz, h8]⟩
        | cons c' l => simp at h8
    · cases h6
  · cases h3
theorem rowOf_at : ∀ {l : List Row} {t : TypeId}, (rowOf l t).cks ≠ [] → rowAt l t = some (rowOf l t)
  | [], t, h => absurd rfl h
  | r :: l, t, h => by
    unfold rowOf at h ⊢
    unfold rowAt
    split
    · rfl
    · rename_i e; rw [if_neg e] at h; exact rowOf_at h
theorem rowOf_agg : ∀ {l : List Row} {t : TypeId}, (rowOf l t).agg = true → rowAt l t = some (rowOf l t)
  | [], t, h => by cases h
  | r :: l, t, h => by
    unfold rowOf at h ⊢
    unfold rowAt
    split
    · rfl
    · rename_i e; rw [if_neg e] at h; exact rowOf_agg h
theorem isBoolT_eq {r : Row} (h : isBoolT r = true) : r.agg = false ∧ r.cks = [.bool] := by
  unfold isBoolT at h
  split at h
  · exact ⟨‹_›, ‹_›⟩
  · cases h
theorem isPtrT_eq {r : Row} (h : isPtrT r = true) : r.agg = false ∧ r.cks = [.ptr] := by
  unfold isPtrT at h
  split at h
  · exact ⟨‹_›, ‹_›⟩
  · cases h
theorem under_bool {P : Program} {tab : List Row} (hT : tabOk P tab tab = true) {t : TypeId} (h : isBoolT (rowOf tab t) = true) : P.underlying t = some .bool := by
  obtain ⟨ha, hc⟩ := isBoolT_eq h
  obtain ⟨d, h1, h2⟩ := (rowOk_of hT (rowOf_at (by rw [hc]; simp))).under
  cases d <;> simp [descOk, hc, ha] at h2
  exact h1
theorem under_ptr {P : Program} {tab : List Row} (hT : tabOk P tab tab = true) {t : TypeId} (h : isPtrT (rowOf tab t) = true) : ∃ e, P.underlying t = some (.pointer e) := by
  obtain ⟨ha, hc⟩ := isPtrT_eq h
  obtain ⟨d, h1, h2⟩ := (rowOk_of hT (rowOf_at (by rw [hc]; simp))).under
  cases d <;> simp [descOk, hc, ha] at h2
  exact ⟨_, h1⟩
theorem isStrT_eq {r : Row} (h : isStrT r = true) : r.agg = false ∧ r.cks = [.str] := by
  unfold isStrT at h
  split at h
  · exact ⟨‹_›, ‹_›⟩
  · cases h
theorem isListT_eq {r : Row} (h : isListT r = true) : r.agg = false ∧ ∃ t, r.cks = [.list t] := by
  unfold isListT at h
  split at h
  · exact ⟨‹_›, _, ‹_›⟩
  · cases h
theorem under_str {P : Program} {tab : List Row} (hT : tabOk P tab tab = true) {t : TypeId} {r : Row} (hr : rowAt tab t = some r) (h : isStrT r = true) : P.underlying t = some .string := by
  obtain ⟨ha, hc⟩ := isStrT_eq h
  obtain ⟨d, h1, h2⟩ := (rowOk_of hT hr).under
  cases d <;> simp [descOk, hc, ha] at h2
  exact h1
theorem under_list {P : Program} {tab : List Row} (hT : tabOk P tab tab = true) {t : TypeId} {r : Row} (hr : rowAt tab t = some r) (h : isListT r = true) : ∃ e er t', P.underlying t = some (.slice e) ∧ rowAt tab e = some er ∧ r.cks = [.list t'] ∧ er.ty = t' ∧ er.cks = cksTy er.ty := by
  obtain ⟨ha, t', hc⟩ := isListT_eq h
  obtain ⟨d, h1, h2⟩ := (rowOk_of hT hr).under
  cases d <;> simp [descOk, hc, ha] at h2
  rename_i e
  obtain ⟨h3, h4⟩ := h2
  cases he : rowAt tab e with
  | none => rw [he] at h3; cases h3
  | some er =>
    rw [he] at h3
    simp only [Bool.and_eq_true] at h3
    cases hq : Ty.eq? er.ty t' with
    | none => rw [hq] at h3; cases h3.1
    | some p => exact ⟨e, er, t', h1, he, hc, p.down, cksEq_eq h3.2⟩
theorem under_slice {P : Program} {tab : List Row} (hT : tabOk P tab tab = true) {t e : TypeId} {r : Row} (hr : rowAt tab t = some r) (h : r.sub = .slice e) : P.underlying t = some (.slice e) ∧ ∃ er, rowAt tab e = some er ∧ er.cks = cksTy er.ty := by
  obtain ⟨d, h1, h2⟩ := (rowOk_of hT hr).under
  cases d <;> simp [descOk, h] at h2
  rename_i e'
  obtain ⟨_, h3, h4⟩ := h2
  have h4 := Nat.eq_of_beq_eq_true (by simpa using h4)
  subst h4
  refine ⟨h1, ?_⟩
  split at h3
  · rename_i tt hc
    cases he : rowAt tab e' with
    | none => rw [he] at h3; cases h3
    | some er =>
      rw [he] at h3
      simp only [Bool.and_eq_true] at h3
      exact ⟨er, rfl, cksEq_eq h3.2⟩
  · cases h3
theorem under_arr {P : Program} {tab : List Row} (hT : tabOk P tab tab = true) {t e : TypeId} {m : Nat} {r : Row} (hr : rowAt tab t = some r) (h : r.sub = .arr m e) : P.underlying t = some (.array m e) := by
  obtain ⟨d, h1, h2⟩ := (rowOk_of hT hr).under
  cases d <;> simp [descOk, h] at h2
  obtain ⟨_, h3, h4⟩ := h2
  subst h3 h4
  exact h1
theorem elt_size {tab : List Row} {P : Program} (hT : tabOk P tab tab = true) {t e : TypeId} {r : Row} (hr : rowAt tab t = some r) (h : r.sub = .slice e) {ty : Ty} (hi : isElt tab r.sub ty = true) :
    P.underlying t = some (.slice e) ∧ ∃ er, rowAt tab e = some er ∧ er.cks = cksTy ty ∧ er.ty = ty := by
  obtain ⟨h1, er, h2, h3⟩ := under_slice hT hr h
  rw [h] at hi
  unfold isElt at hi
  simp only [h2] at hi
  cases hq : Ty.eq? ty er.ty with
  | none => rw [hq] at hi; cases hi
  | some p => exact ⟨h1, er, h2, by rw [h3, p.down], p.down.symm⟩
theorem cksTy_len : ∀ t : Ty, (cksTy t).length = t.size
  | .int _ => rfl
  | .bool => rfl
  | .str => rfl
  | .unit => rfl
  | .list _ => rfl
  | .pair a b => by
    show (cksTy a ++ cksTy b).length = a.size + b.size
    rw [List.length_append, cksTy_len a, cksTy_len b]
theorem isAgg_run {P : Program} {tab : List Row} {t : TypeId} {r : Row} {w : World} (h : RowOk P tab r t) : (Go.isAgg t).run P w = Result.ok r.agg w := by
  obtain ⟨d, h1, h2⟩ := h.under
  unfold Go.isAgg
  cases d <;> simp [descOk] at h2 <;> simp [run_underlying h1, h2]
theorem sizeOf_run {P : Program} {tab : List Row} {t : TypeId} {r : Row} {w : World} (h : RowOk P tab r t) : (sizeOf t).run P w = .ok r.cks.length w := by
  obtain ⟨i, h1, h2, _⟩ := h.info
  simp [sizeOf, typeInfo, h1, h2]
theorem eqFs_eq {r : Row} {fs : List (Nat × TypeId)} (h : eqFs r = some fs) : r.agg = true ∧ r.sub = .struct fs := by
  unfold eqFs at h
  split at h
  · split at h
    · cases h; exact ⟨‹_›, ‹_›⟩
    · cases h
  · cases h
theorem namedOk_all : ∀ {l : List Field}, namedOk l = true → ∀ f ∈ l, f.name ≠ "_"
  | [], _, f, h => by cases h
  | a :: l, h, f, hf => by
    simp only [namedOk, Bool.and_eq_true, bne_iff_ne] at h
    rcases List.mem_cons.1 hf with e | e
    · rw [e]; exact h.1
    · exact namedOk_all h.2 f e
/-- a struct whose values may be compared -/
theorem under_eq {P : Program} {tab : List Row} (hT : tabOk P tab tab = true) {t : TypeId} {r : Row} {fs : List (Nat × TypeId)} (hr : rowAt tab t = some r) (h : eqFs r = some fs) :
    P.underlying t = some (.struct (P.fieldsOf t)) ∧ P.stoodInHeld t = false ∧ P.eqGuardType P.depth t = false ∧ fieldsOk tab fs (P.fieldsOf t).toList = true ∧ ∀ f ∈ (P.fieldsOf t).toList, f.name ≠ "_" := by
  obtain ⟨ha, hs⟩ := eqFs_eq h
  have hk := rowOk_of hT hr
  obtain ⟨d, h1, h2, h3⟩ := hk.eq
  cases d <;> simp [descOk, ha, hs] at h2
  rename_i fields
  have hf : P.fieldsOf t = fields := by simp [Program.fieldsOf, h1]
  simp only [eqOk, h, hk.id, Bool.and_eq_true, Bool.not_eq_true'] at h3
  rw [hf]
  exact ⟨h1, h3.1, h3.2.1, h2, namedOk_all h3.2.2⟩
end Go.Proofs.Ytkfphlmbdppbfaa.Vm
