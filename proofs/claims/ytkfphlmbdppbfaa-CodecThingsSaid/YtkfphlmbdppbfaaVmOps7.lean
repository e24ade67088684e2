/- The machine's operations are the model's: stores into elements of lists. No condition. -/
import Derived.Test.YtkfphlmbdppbfaaVmOps6
namespace Go.Proofs.Ytkfphlmbdppbfaa.Vm
open Go Go.RowKit
set_option linter.unusedVariables false
set_option linter.unusedSimpArgs false
/-- a list with some places new -/
def setL {α : Type} : List α → Nat → List α → List α
  | cs, _, [] => cs
  | cs, o, y :: r => setL (cs.set o y) (o + 1) r
theorem length_setL {α : Type} : ∀ (ys : List α) (cs : List α) (o : Nat), (setL cs o ys).length = cs.length
  | [], _, _ => rfl
  | y :: r, cs, o => by show (setL (cs.set o y) (o + 1) r).length = _; rw [length_setL r, List.length_set]
theorem get_setL {α : Type} : ∀ (ys : List α) (cs : List α) (o j : Nat), o + ys.length ≤ cs.length → (setL cs o ys)[j]? = if o ≤ j ∧ j < o + ys.length then ys[j - o]? else cs[j]?
  | [], cs, o, j, _ => by
    have h : ¬ (o ≤ j ∧ j < o + ([] : List α).length) := by simp
    exact (if_neg h).symm
  | y :: r, cs, o, j, h => by
    have h' : o + 1 + r.length ≤ cs.length := by simp at h; omega
    show (setL (cs.set o y) (o + 1) r)[j]? = _
    rw [get_setL r _ (o + 1) j (by rw [List.length_set]; exact h')]
    by_cases e : o = j
    · subst e
      rw [if_neg (by omega), if_pos ⟨Nat.le_refl _, by simp⟩, Nat.sub_self, List.getElem?_set_self (by omega)]; rfl
    · by_cases e1 : o + 1 ≤ j ∧ j < o + 1 + r.length
      · rw [if_pos e1, if_pos ⟨by omega, by simp; omega⟩, show j - o = (j - (o + 1)) + 1 by omega, List.getElem?_cons_succ]
      · rw [if_neg e1, if_neg (by simp; omega), List.getElem?_set_ne e]
theorem setL_eq {α : Type} (ys cs : List α) (o : Nat) (h : o + ys.length ≤ cs.length) : setL cs o ys = cs.take o ++ ys ++ cs.drop (o + ys.length) := by
  apply List.ext_getElem?
  intro j
  rw [get_setL ys cs o j h]
  have hl : (cs.take o).length = o := by rw [List.length_take]; omega
  by_cases h1 : j < o
  · rw [if_neg (by omega), List.append_assoc, List.getElem?_append_left (by omega), List.getElem?_take, if_pos h1]
  · by_cases h2 : j < o + ys.length
    · rw [if_pos ⟨by omega, h2⟩, List.append_assoc, List.getElem?_append_right (by omega), hl, List.getElem?_append_left (by omega)]
    · rw [if_neg (by omega), List.getElem?_append_right (by rw [List.length_append, hl]; omega), List.length_append, hl, List.getElem?_drop]
      congr 1; omega
theorem Blk_setCells {b : Nat} {t : TypeId} : ∀ (ys : List Value) {w : World} {cs : List Value} (o : Nat), Blk w b cs t → Blk (w.setCells b o ys) b (setL cs o ys) t
  | [], w, cs, o, h => h
  | y :: r, w, cs, o, h => Blk_setCells r (o + 1) (h.set o y)
theorem Fr_setCells {b : Nat} : ∀ (ys : List Value) (w : World) (o : Nat), Fr [b] w (w.setCells b o ys)
  | [], w, o => Fr.refl _ _
  | y :: r, w, o => (fr_setCell w b o y).same (Fr_setCells r _ (o + 1))
theorem LsR_set {R : V → Value → List Nat → Prop} : ∀ {vs : List V} {xs : List Value} {G : List Nat} {i : Nat} {v : V} {y : Value} {Gv : List Nat}, LsR R vs xs G → R v y Gv → i < vs.length →
    ∃ G', LsR R (vs.set i v) (xs.set i y) G' ∧ (∀ z ∈ G', z ∈ G ∨ z ∈ Gv) ∧ (G.Nodup → Gv.Nodup → (∀ z ∈ Gv, z ∉ G) → G'.Nodup)
  | [], _, _, _, _, _, _, _, _, h => by simp at h
  | _ :: _, [], _, _, _, _, _, h, _, _ => h.elim
  | u :: vs, x :: xs, G, 0, v, y, Gv, ⟨G1, G2, e, h1, h2⟩, hv, _ => by
    refine ⟨Gv ++ G2, ⟨Gv, G2, rfl, hv, h2⟩, fun z hz => ?_, fun hn hv hd => ?_⟩
    · rw [e]; rcases List.mem_append.1 hz with h | h
      · exact .inr h
      · exact .inl (List.mem_append_right _ h)
    · rw [e] at hn hd
      obtain ⟨n1, n2, n3⟩ := List.nodup_append.1 hn
      exact List.nodup_append.2 ⟨hv, n2, fun z hz z' hz' e => hd z hz (by rw [e]; exact List.mem_append_right _ hz')⟩
  | u :: vs, x :: xs, G, i + 1, v, y, Gv, ⟨G1, G2, e, h1, h2⟩, hv, hi => by
    obtain ⟨G', h3, h4, h5⟩ := LsR_set (i := i) h2 hv (by simpa using hi)
    refine ⟨G1 ++ G', ⟨G1, G', rfl, h1, h3⟩, fun z hz => ?_, fun hn hv hd => ?_⟩
    · rw [e]; rcases List.mem_append.1 hz with h | h
      · exact .inl (List.mem_append_left _ h)
      · rcases h4 z h with h | h
        · exact .inl (List.mem_append_right _ h)
        · exact .inr h
    · rw [e] at hn hd
      obtain ⟨n1, n2, n3⟩ := List.nodup_append.1 hn
      refine List.nodup_append.2 ⟨n1, h5 n2 hv (fun z hz h => hd z hz (List.mem_append_right _ h)), fun z hz z' hz' e => ?_⟩
      subst e
      rcases h4 z hz' with h | h
      · exact n3 z hz z h rfl
      · exact hd z h (List.mem_append_left _ hz)
theorem sput_set : ∀ (cs : List V) (i : Nat) (v : V), i < cs.length → sput cs i v = cs.set i v
  | [], _, _, h => by simp at h
  | _ :: l, 0, v, _ => rfl
  | a :: l, i + 1, v, h => by show a :: sput l i v = a :: l.set i v; rw [sput_set l i v (by simpa using h)]
/-- some cells new -/
theorem LsR_fill {R : V → Value → List Nat → Prop} : ∀ {ps : List V} {ys : List Value} {Gp : List Nat} {vs : List V} {xs : List Value} {G : List Nat} {off : Nat}, LsR R vs xs G → LsR R ps ys Gp → off + ps.length ≤ vs.length →
    ∃ G', LsR R (fillAt vs off ps) (setL xs off ys) G' ∧ (∀ z ∈ G', z ∈ G ∨ z ∈ Gp) ∧ (G.Nodup → Gp.Nodup → (∀ z ∈ Gp, z ∉ G) → G'.Nodup)
  | [], [], Gp, vs, xs, G, off, h, _, _ => ⟨G, h, fun z hz => .inl hz, fun hn _ _ => hn⟩
  | p :: ps, y :: ys, Gp, vs, xs, G, off, h, ⟨Ga, Gb, e, h1, h2⟩, hl => by
    have hlt : off < vs.length := by simp at hl; omega
    obtain ⟨G1, k1, k2, k3⟩ := LsR_set (i := off) h h1 hlt
    obtain ⟨G2, m1, m2, m3⟩ := LsR_fill (off := off + 1) k1 h2 (by rw [List.length_set]; simp at hl; omega)
    refine ⟨G2, ?_, fun z hz => ?_, fun hn hp hd => ?_⟩
    · show LsR R (fillAt (sput vs off p) (off + 1) ps) (setL (xs.set off y) (off + 1) ys) G2
      rw [sput_set vs off p hlt]; exact m1
    · rw [e]
      rcases m2 z hz with h | h
      · rcases k2 z h with h | h
        · exact .inl h
        · exact .inr (List.mem_append_left _ h)
      · exact .inr (List.mem_append_right _ h)
    · rw [e] at hp hd
      obtain ⟨n1, n2, n3⟩ := List.nodup_append.1 hp
      refine m3 (k3 hn n1 (fun z hz => hd z (List.mem_append_left _ hz))) n2 (fun z hz h => ?_)
      rcases k2 z h with h | h
      · exact hd z (List.mem_append_right _ hz) h
      · exact n3 z h z hz rfl
  | [], _ :: _, _, _, _, _, _, _, h, _ => h.elim
  | _ :: _, [], _, _, _, _, _, _, h, _ => h.elim
/-- an element out of its cells -/
theorem ofCells_datR {E : En} : ∀ {t : Ty} {cells : List V} {vals : List Value} {y : t.den} {rest : List V}, LsR (CR E) cells vals [] → ofCells t cells = some (y, rest) → ∃ v1 v2, vals = v1 ++ v2 ∧ datR E.M t y v1 ∧ LsR (CR E) rest v2 []
  | .unit, cells, vals, y, rest, h, ho => by cases ho; exact ⟨[], vals, rfl, rfl, h⟩
  | .pair a b, cells, vals, y, rest, h, ho => by
    unfold ofCells at ho
    split at ho
    · rename_i x r hx
      split at ho
      · rename_i y' r' hy
        cases ho
        obtain ⟨v1, v2, e, d1, h1⟩ := ofCells_datR h hx
        obtain ⟨v3, v4, e', d2, h2⟩ := ofCells_datR h1 hy
        exact ⟨v1 ++ v3, v4, by rw [e, e', List.append_assoc], ⟨v1, v3, rfl, d1, d2⟩, h2⟩
      · cases ho
    · cases ho
  | .int k, [], _, _, _, _, ho => by cases ho
  | .bool, [], _, _, _, _, ho => by cases ho
  | .str, [], _, _, _, _, ho => by cases ho
  | .list t, [], _, _, _, _, ho => by cases ho
  | .int k, _ :: _, [], _, _, h, _ => h.elim
  | .bool, _ :: _, [], _, _, h, _ => h.elim
  | .str, _ :: _, [], _, _, h, _ => h.elim
  | .list t, _ :: _, [], _, _, h, _ => h.elim
  | .int k, v :: r, x :: xs, y, rest, ⟨G1, G2, e, h1, h2⟩, ho => by
    have e2 : G2 = [] := (List.append_eq_nil_iff.1 e.symm).2
    subst e2
    cases v <;> first | cases ho | skip
    rename_i k' m
    change (match kEq k' k with | some _ => some (m, r) | none => none) = _ at ho
    split at ho
    · rename_i hk _
      obtain ⟨hk⟩ := hk
      subst hk
      cases ho
      exact ⟨[x], xs, rfl, by rw [h1.1]; rfl, h2⟩
    · cases ho
  | .bool, v :: r, x :: xs, y, rest, ⟨G1, G2, e, h1, h2⟩, ho => by
    have e2 : G2 = [] := (List.append_eq_nil_iff.1 e.symm).2
    subst e2
    cases v <;> first | cases ho | skip
    exact ⟨[x], xs, rfl, by rw [h1.1]; rfl, h2⟩
  | .str, v :: r, x :: xs, y, rest, ⟨G1, G2, e, h1, h2⟩, ho => by
    have e2 : G2 = [] := (List.append_eq_nil_iff.1 e.symm).2
    subst e2
    cases v <;> first | cases ho | skip
    exact ⟨[x], xs, rfl, by rw [h1.1]; rfl, h2⟩
  | .list t, v :: r, x :: xs, y, rest, ⟨G1, G2, e, h1, h2⟩, ho => by
    have e2 : G2 = [] := (List.append_eq_nil_iff.1 e.symm).2
    subst e2
    cases v
    case list t' ys ow =>
      cases ow
      case no =>
        change (match Ty.eq? t' t with | some h => some (castL h.down ys, r) | none => none) = _ at ho
        split at ho
        · rename_i hk _
          obtain ⟨hk⟩ := hk
          subst hk
          cases ho
          exact ⟨[x], xs, rfl, ⟨x, rfl, h1.1⟩, h2⟩
        · cases ho
      case nil =>
        cases ho
        exact ⟨[x], xs, rfl, ⟨x, rfl, by rw [h1.1.2]; exact lstR_nil _ _ _⟩, h2⟩
      case own => cases ho
    case nils =>
      cases ho
      exact ⟨[x], xs, rfl, ⟨x, rfl, by rw [h1.1]; exact lstR_nil _ _ _⟩, h2⟩
    all_goals cases ho
section
variable {P : Program} {B : Bs} {X X' : List Nat} {g : Key → V} {n : Nat} {a : Act} {w : World} {M : Mem} {ι : Nat → Nat} {Gs : Key → List Nat} {C : CallR}
/-- memory goes on within what is owned at a key -/
theorem Sim.ownWrite (hs : Sim B X g n a w M ι Gs) {k : Key} {V : V} {w' : World} (hf : Fr (Gs k) w w') (hst : ∀ b o v, M b o = some v → w'.cell? ⟨b, o, none⟩ = some v)
    (hV : ∀ v, valAt a (fun k => w.heap[k]?) ι k = some v → VR ⟨M, fun k => w'.heap[k]?, ι, fun _ => none⟩ V v (Gs k))
    (hkeys : keys1 V = []) (hcell : (∃ b j, k = .c b j) → isCell V = true) (hold : isOld V = true → isOld (g k) = true) (hu : isUndef V = false) (hu0 : isUndef (g k) = false) (hr : ∀ b ∈ V.refs, live g b) : Sim B X (gput g k V) n a w' M ι Gs := by
  have hun : ∀ k', isUndef (gput g k V k') = isUndef (g k') := gput_undef (by rw [hu, hu0])
  have hl : ∀ b, live (gput g k V) b ↔ live g b := fun b => by unfold live; rw [hun]
  have hlt : ∀ b, live g b → ι b < w.heap.size := by
    intro b hb
    obtain ⟨cs, t, h1, _⟩ := hs.box b hb
    rcases Nat.lt_or_ge (ι b) w.heap.size with h | h
    · exact h
    · rw [Array.getElem?_eq_none h] at h1; cases h1
  have hbx : ∀ b, live g b → w'.heap[ι b]? = w.heap[ι b]? := fun b hb => hf.block _ (hlt b hb) (fun hm => (hs.claim k _ hm).2 b hb rfl)
  have hGk : ∀ k', k ≠ k' → ∀ x ∈ Gs k', w'.heap[x]? = w.heap[x]? := fun k' e x hx => hf.block x (hs.claim k' x hx).1 (fun hm => e (hs.disj k k' x hm hx))
  have hval : ∀ k', isUndef (g k') = false → valAt a (fun k => w'.heap[k]?) ι k' = valAt a (fun k => w.heap[k]?) ι k' := by
    intro k' hk'
    cases k' with
    | s i => rfl
    | c b j => simp only [valAt]; rw [hbx b (hs.live_of hk')]
  have ho : ∀ k' v', oldAt (gput g k V) (valAt a (fun k => w'.heap[k]?) ι) k' = some v' → oldAt g (valAt a (fun k => w.heap[k]?) ι) k' = some v' := by
    intro k' v' h
    unfold oldAt at h ⊢
    by_cases e : k = k'
    · subst e
      rw [gput_self] at h
      split at h
      · rename_i h1; rw [if_pos (hold h1), ← hval _ hu0]; exact h
      · cases h
    · rw [gput_ne _ e] at h
      split at h
      · rename_i h1; rw [if_pos h1, ← hval _ (old_undef h1)]; exact h
      · cases h
  have hle : ∀ k', k ≠ k' → ∀ r, En.le (enOf g a (fun k => w.heap[k]?) M ι) (enOf (gput g k V) a (fun k => w'.heap[k]?) M ι) r (Gs k') := fun k' e r =>
    ⟨Mle.refl _, fun x hx => ⟨hGk k' e x hx, fun _ => rfl⟩, fun _ _ => rfl⟩
  have hle0 : ∀ r G, En.le ⟨M, fun k => w'.heap[k]?, ι, fun _ => none⟩ (enOf (gput g k V) a (fun k => w'.heap[k]?) M ι) r G := fun r G =>
    ⟨Mle.refl _, fun _ _ => ⟨rfl, fun _ => rfl⟩, fun _ _ => rfl⟩
  refine { size := hs.size, defers := hs.defers, pin := fun p hp => ⟨(hs.pin p hp).1, fun h => (hs.pin p hp).2 ((hl p.1).1 h)⟩, fr := hs.fr.trans hf (fun x hx => hs.mineG k x hx), mle := hs.mle, mo := hs.mo, mineG := hs.mineG, mineB := fun b hb => hs.mineB b ((hl b).1 hb), mineX := hs.mineX, out := ?_, slot := ?_, box := ?_, gone := ?_, inj := ?_, refs := ?_, stable := hst, apart := ?_, free := ?_, disj := hs.disj, nodup := hs.nodup, claim := ?_, spare := ?_ }
  · intro i hi
    have := hun (.s i)
    rw [hs.out i hi] at this
    revert this
    cases gput g k V (.s i) <;> simp [isUndef]
  · intro i
    by_cases e : k = .s i
    · subst e
      rw [gput_self]
      exact VR_mono (hle0 _ _) (fun q hq => by rw [hkeys] at hq; cases hq) (hV _ rfl)
    · rw [gput_ne _ e]
      exact VR_mono (hle _ e _) (fun q _ v' h => ho q v' h) (hs.slot i)
  · intro b hb
    have hb := (hl b).1 hb
    obtain ⟨cs, t, h1, h2⟩ := hs.box b hb
    refine ⟨cs, t, by rw [hbx b hb]; exact h1, fun j => ⟨fun h => (h2 j).1 (by rw [← hun]; exact h), fun v hv => ⟨by rw [hun]; exact ((h2 j).2 v hv).1, ?_⟩⟩⟩
    by_cases e : k = .c b j
    · subst e
      rw [gput_self]
      exact CR_mono (hle0 _ _) (CR_of_VR (hcell ⟨b, j, rfl⟩) hkeys (hV v (by simp only [valAt, h1]; exact hv)))
    · rw [gput_ne _ e]
      exact CR_mono (hle _ e _) ((h2 j).2 v hv).2
  · intro b hb j
    have h1 := hs.gone b (fun h => hb ((hl b).2 h)) j
    have := hun (.c b j)
    rw [h1] at this
    revert this
    cases gput g k V (.c b j) <;> simp [isUndef]
  · intro b b' hb hb' e; exact hs.inj b b' ((hl b).1 hb) ((hl b').1 hb') e
  · intro k' b hb
    rw [hl]
    by_cases e : k = k'
    · subst e; rw [gput_self] at hb; exact hr b hb
    · rw [gput_ne _ e] at hb; exact hs.refs k' b hb
  · intro b o hb; exact hs.apart b o ((hl b).1 hb)
  · intro k' hk'
    by_cases e : k = k'
    · subst e; rw [gput_self] at hk'; rw [hk'] at hu; cases hu
    · rw [gput_ne _ e] at hk'; exact hs.free k' hk'
  · intro k' x hx; exact ⟨Nat.lt_of_lt_of_le (hs.claim k' x hx).1 hf.size, fun b hb => (hs.claim k' x hx).2 b ((hl b).1 hb)⟩
  · intro x hx; exact ⟨Nat.lt_of_lt_of_le (hs.spare x hx).1 hf.size, (hs.spare x hx).2.1, fun b hb => (hs.spare x hx).2.2 b ((hl b).1 hb)⟩
/-- one's own list with cells of one element new -/
theorem ownR_upd {h h' : Nat → Option Obj} {t : Ty} {xs : List t.den} {v : Value} {G : List Nat} (k : ownR M h t xs false v G) {i off : Nat} (hi : i < xs.length) {b o m c : Nat} (hv : v = .slice (some ⟨b, o, none⟩) m c) {ys : List Value} {y : t.den}
    (hoff : off + ys.length ≤ t.size) (h1 : ∀ cs e, h b = some (.cells cs e (0, 0)) → h' b = some (.cells (setL cs.toList (o + i * t.size + off) ys).toArray e (0, 0)))
    (hy : ∀ us, datR M t xs[i] us → datR M t y (setL us off ys)) : G = [b] ∧ (∀ o', M b o' = none) ∧ (∃ cs e, h b = some (.cells cs e (0, 0)) ∧ ∀ j, j < ys.length → o + i * t.size + off + j < cs.size) ∧ ownR M h' t (xs.set i y) false v G := by
  rcases k with ⟨_, h2, _⟩ | ⟨_, h2, _⟩ | ⟨g0, off0, cap, cs, e, us, k1, k2, k3, k4, k5, k6, k7, k8, k9, k10⟩
  · subst h2; simp at hi
  · cases h2
  · rw [hv] at k2
    simp only [Value.slice.injEq, Option.some.injEq, Addr.mk.injEq, and_true] at k2
    obtain ⟨⟨rfl, rfl⟩, rfl, rfl⟩ := k2
    have hul := rowsR_len k7
    have hmul : (i + 1) * t.size ≤ xs.length * t.size := Nat.mul_le_mul_right _ hi
    have hmul2 : xs.length * t.size ≤ c * t.size := Nat.mul_le_mul_right _ k4
    have hsucc : (i + 1) * t.size = i * t.size + t.size := Nat.succ_mul _ _
    have h9 := h1 _ _ k3
    obtain ⟨ui, hd, hu⟩ := rowsR_at k7 (List.getElem?_eq_getElem hi)
    have huil := datR_len hd
    have hus : us.take (i * t.size) ++ setL ui off ys ++ us.drop ((i + 1) * t.size) = setL us (i * t.size + off) ys := by
      apply List.ext_getElem?
      intro j
      rw [get_setL ys us _ j (by omega)]
      have hl : (us.take (i * t.size)).length = i * t.size := by rw [List.length_take]; omega
      by_cases c1 : j < i * t.size
      · rw [if_neg (by omega), List.append_assoc, List.getElem?_append_left (by omega), List.getElem?_take, if_pos c1]
      · by_cases c2 : j < (i + 1) * t.size
        · rw [List.append_assoc, List.getElem?_append_right (by omega), hl, List.getElem?_append_left (by rw [length_setL]; omega), get_setL ys ui off _ (by omega)]
          by_cases c3 : off ≤ j - i * t.size ∧ j - i * t.size < off + ys.length
          · rw [if_pos c3, if_pos (by omega)]; congr 1; omega
          · rw [if_neg c3, if_neg (by omega)]
            have := hu (j - i * t.size) (ui[j - i * t.size]'(by omega)) (List.getElem?_eq_getElem (by omega))
            rw [List.getElem?_eq_getElem (by omega), ← this]; congr 1; omega
        · rw [if_neg (by omega), List.getElem?_append_right (by rw [List.length_append, hl, length_setL]; omega), List.length_append, hl, length_setL, List.getElem?_drop]
          congr 1; omega
    have hset := rowsR_set k7 hi (hy ui hd)
    rw [hus] at hset
    refine ⟨k1, fun o' => k10 o' (.inl rfl), ⟨_, e, k3, fun j hj => by simp; omega⟩, .inr (.inr ⟨b, o, c, setL cs (o + i * t.size + off) ys, e, _, k1, by rw [hv, List.length_set], by simpa using h9, by rw [List.length_set]; exact k4, k5, by rw [length_setL]; exact k6, hset, ?_, fun h => by (cases h), fun o' _ => k10 o' (.inl rfl)⟩)⟩
    rw [length_setL]
    apply List.ext_getElem?
    intro j
    rw [get_setL ys us _ j (by omega), List.getElem?_take]
    by_cases c1 : j < us.length
    · rw [if_pos c1, List.getElem?_drop, get_setL ys cs _ _ (by omega)]
      by_cases c2 : i * t.size + off ≤ j ∧ j < i * t.size + off + ys.length
      · rw [if_pos (by omega), if_pos c2]; congr 1; omega
      · rw [if_neg (by omega), if_neg c2]
        have : ((cs.drop o).take us.length)[j]? = us[j]? := by rw [k8]
        rw [List.getElem?_take, if_pos c1, List.getElem?_drop] at this
        exact this
    · rw [if_neg c1, if_neg (by omega), List.getElem?_eq_none (by omega)]
theorem toCells_len : ∀ (t : Ty) (x : t.den), (toCells t x).length = t.size
  | .int _, _ => rfl
  | .bool, _ => rfl
  | .str, _ => rfl
  | .unit, _ => rfl
  | .list _, _ => rfl
  | .pair a b, x => by show (toCells a x.1 ++ toCells b x.2).length = a.size + b.size; rw [List.length_append, toCells_len a, toCells_len b]
theorem updElt_datR {E : En} {t : Ty} {x y : t.den} {off : Nat} {ps : List V} {ys : List Value} (hp : LsR (CR E) ps ys []) (hoff : off + ps.length ≤ t.size) (hu : updElt t x off ps = some y) {us : List Value} (h : datR E.M t x us) : datR E.M t y (setL us off ys) := by
  unfold updElt at hu
  split at hu
  · rename_i z hz
    cases hu
    have hls : LsR (CR E) (toCells t x) us [] := cells_LsR (R := CR E) (fun v x hv hc hk => CR_of_VR hc hk hv) h
    obtain ⟨G', h1, h2, _⟩ := LsR_fill hls hp (by rw [toCells_len]; exact hoff)
    have e : G' = [] := by
      cases G' with
      | nil => rfl
      | cons z l => exact absurd (h2 z (by simp)) (by simp)
    subst e
    obtain ⟨v1, v2, e, h3, h4⟩ := ofCells_datR h1 hz
    cases v2 with
    | nil => rw [e, List.append_nil]; exact h3
    | cons _ _ => exact h4.elim
  · cases hu
theorem plainAt_ws {k : Option Key} {v u : V} {rs : List Key} {ws : WS} (h : Run C g (plainAt k v) rs (u, ws)) : ws = [] ∨ ∃ q V', ws = [(q, V')] ∧ ∀ t xs, V' ≠ .list t xs (.own false false) := by
  cases v
  case undef => exact h.fail_inv.elim
  case skip => exact h.fail_inv.elim
  case dead => exact h.fail_inv.elim
  case ep => exact h.fail_inv.elim
  case list t xs o =>
    cases o
    case own s f =>
      cases s <;> cases k <;> first
        | exact h.fail_inv.elim
        | (obtain ⟨e, _⟩ := h.ret_inv; cases e; exact .inl rfl)
        | (obtain ⟨e, _⟩ := h.ret_inv; cases e; exact .inr ⟨_, _, rfl, fun t xs e => by cases e⟩)
    all_goals (obtain ⟨e, _⟩ := h.ret_inv; cases e; exact .inl rfl)
  case agg cs =>
    cases ho : anyV isOpen cs with
    | false => simp only [plainAt, ho] at h; obtain ⟨e, _⟩ := h.ret_inv; cases e; exact .inl rfl
    | true =>
      simp only [plainAt, ho] at h
      cases k with
      | none => exact h.fail_inv.elim
      | some q => obtain ⟨e, _⟩ := h.ret_inv; cases e; exact .inr ⟨_, _, rfl, fun t xs e => by cases e⟩
  case tup cs =>
    cases ho : anyV isOpen cs with
    | false => simp only [plainAt, ho] at h; obtain ⟨e, _⟩ := h.ret_inv; cases e; exact .inl rfl
    | true =>
      simp only [plainAt, ho] at h
      cases k with
      | none => exact h.fail_inv.elim
      | some q => obtain ⟨e, _⟩ := h.ret_inv; cases e; exact .inr ⟨_, _, rfl, fun t xs e => by cases e⟩
  case alias q =>
    obtain ⟨_, _, h⟩ := h.rd_inv
    split at h
    · obtain ⟨e, _⟩ := h.ret_inv; cases e; exact .inr ⟨_, _, rfl, fun t xs e => by cases e⟩
    · obtain ⟨e, _⟩ := h.ret_inv; cases e; exact .inl rfl
    · exact h.fail_inv.elim
  all_goals (obtain ⟨e, _⟩ := h.ret_inv; cases e; exact .inl rfl)
variable {cfg : Cfg} {fu : FuncId} {o : Oper} {rs : List Key} {ws : WS} (hT : tabOk P cfg.tab cfg.tab = true) (hs : Sim B [] g n a w M ι Gs) (hd : inRange n o.dst = true) (hr : Run C g (evOp cfg fu o) rs ws) (Q : Exit → Act → World → Prop)
include hs hr
include hT in
theorem store_sound {t : TypeId} {x y : Operand} (ho : o.op = .store t x y) : o.wp P a w (Good B (gputs g ws) n) Q := by
  simp only [evOp, ho] at hr
  replace hr := hr.guard_inv; obtain ⟨hdst, hr⟩ := hr
  have hdn : o.dst = none := by simpa using hdst
  replace hr := hr.bind_inv; obtain ⟨_, _, p, _, h1, hr⟩ := hr
  obtain ⟨G0, hV, hn, hrf, hk⟩ := opnd_sound hs h1
  replace hr := hr.opt_inv; obtain ⟨r, hrow, hr⟩ := hr
  have hR := rowOk_of hT hrow
  cases p
  case ref b off => exact store_ref hT hs Q ho hdn hrow (hrf b (by simp [V.refs, refs3, refs2, refs1])) hV.1 hr
  case ep k ty i off =>
    replace hr := hr.bind_inv; obtain ⟨_, _, u, _, h2, hr⟩ := hr
    replace hr := hr.opt_inv; obtain ⟨cs, hsh, hr⟩ := hr
    obtain ⟨hg, hr⟩ := hr.guard_inv
    simp only [Bool.and_eq_true, decide_eq_true_eq] at hg
    obtain ⟨hsure, hoff⟩ := hg
    replace hr := hr.over_inv
    obtain ⟨u, ws1⟩ := u
    obtain ⟨M', Gs', hs1, hm1, hkept, hun⟩ := plain_kept hs h2
    replace hr := hr.rd_inv; obtain ⟨_, _, hr⟩ := hr
    split at hr
    · rename_i t' xs hq
      split at hr
      · rename_i h _
        obtain ⟨h⟩ := h
        subst h
        obtain ⟨hi, hr⟩ := hr.guard_inv
        have hi : i < xs.length := of_decide_eq_true hi
        obtain ⟨z, hz, hr⟩ := hr.opt_inv
        obtain ⟨e, _⟩ := hr.ret_inv; subst e
        have hls := shape_LsR (hkept.1 (fun _ => none)) hkept.2.1 hsh hsure
        have hlen := shape_len hR hsh
        have hsz : (a.eval y).cells.size = r.cks.length := by rw [← hlen, LsR_len hls]; simp
        have hyl : (a.eval y).cells.toList.length = cs.length := by rw [LsR_len hls]
        have hget : (castL rfl xs).getD i t'.zero = xs[i] := by
          show xs.getD i t'.zero = xs[i]
          rw [List.getD_eq_getElem?_getD, List.getElem?_eq_getElem hi]; rfl
        rw [hget] at hz
        obtain ⟨v', h5, h6, hcl⟩ := hs1.at (k := k) (by rw [hq]; rfl)
        have hgk0 : isUndef (g k) = false := by rw [← hun, hq]; rfl
        have hgk : g k = .list t' xs (.own false false) := by
          obtain ⟨_, _, _, _, _, h2'⟩ := h2.bind_inv
          rcases plainAt_ws h2' with e | ⟨q, V', e, hne⟩
          · subst e; exact hq
          · subst e
            by_cases e : q = k
            · subst e
              have : gputs g [(q, V')] q = V' := gput_self _ _ _
              rw [this] at hq; exact absurd hq (hne _ _)
            · have : gputs g [(q, V')] k = g k := gput_ne _ e
              rw [this] at hq; exact hq
        obtain ⟨b, o', m, c, hv', _, hx⟩ := hV.1 v' (by simp only [enOf, oldAt]; rw [if_pos (by rw [hgk]; rfl)]; exact h5)
        rw [hq] at h6
        obtain ⟨q1, q2, ⟨cs0, e0, q3, q4⟩, q5⟩ := ownR_upd (h := fun k => w.heap[k]?) (h' := fun k => (w.setCells b (o' + i * t'.size + off) (a.eval y).cells.toList).heap[k]?) (show ownR M' (fun k => w.heap[k]?) t' xs false v' (Gs' k) from h6) hi hv' (off := off) (ys := (a.eval y).cells.toList) (y := z) (by rw [hyl]; exact hoff)
          (fun cs e he => Blk_setCells _ _ (by simpa [Blk] using he)) (fun us hus => updElt_datR (E := ⟨M', fun k => w.heap[k]?, ι, fun _ => none⟩) hls hoff hz hus)
        have hrun := storeAt_run (P := P) (w := w) hR (o := o' + i * t'.size + off) (x := a.eval y) q3 (fun j hj => q4 j (by simpa using hj)) hsz (ones_LsR hls hsure)
        have hrun2 : (execOp a.eval o).run P w = .ok .skip (w.setCells b (o' + i * t'.size + off) (a.eval y).cells.toList) := by
          simp only [execOp, ho, hx]
          rw [Sem.run_bind, hrun]; simp
        unfold Oper.wp
        rw [hrun2, Oper.upon_skip, hdn, gputs_append]
        have hf : Fr (Gs' k) w (w.setCells b (o' + i * t'.size + off) (a.eval y).cells.toList) := by rw [q1]; exact Fr_setCells _ _ _
        refine ⟨M', ι, Gs', hs1.ownWrite (k := k) (V := .list t' (xs.set i z) (.own false false)) hf (fun b' o'' v hv => ?_) (fun v hv => ?_) rfl (fun _ => rfl) (fun _ => by rw [hq]; rfl) rfl (by rw [hq]; rfl) (fun b hb => by cases hb)⟩
        · refine hf.cell (hs1.stable _ _ _ hv) (fun hm => ?_)
          rw [q1] at hm
          rw [List.mem_singleton.1 hm, q2] at hv; cases hv
        · rw [h5] at hv; cases hv; exact q5
      · exact hr.fail_inv.elim
    · exact hr.fail_inv.elim
  all_goals exact hr.fail_inv.elim
end
end Go.Proofs.Ytkfphlmbdppbfaa.Vm
