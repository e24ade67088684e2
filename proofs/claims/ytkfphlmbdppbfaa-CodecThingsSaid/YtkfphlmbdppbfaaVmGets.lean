/- Values that are read, kept or handed on. No condition. -/
import Derived.Test.YtkfphlmbdppbfaaVmRun
namespace Go.Proofs.Ytkfphlmbdppbfaa.Vm
open Go Go.RowKit
set_option linter.unusedVariables false
set_option linter.unusedSimpArgs false

def hcell (h : Nat → Option Obj) (b o : Nat) : Option Value := match h b with
  | some (.cells cs _ _) => cs[o]?
  | _ => none
theorem hcell_cell {w : World} {b o : Nat} {v : Value} (h : hcell (fun k => w.heap[k]?) b o = some v) : w.cell? ⟨b, o, none⟩ = some v := by
  unfold hcell at h
  unfold World.cell?
  dsimp only at h ⊢
  split at h
  · rename_i e; rw [e]; exact h
  · cases h
/-- memory of which more is known: cells of blocks that are claimed -/
structure Ext (M M' : Mem) (h : Nat → Option Obj) (G : List Nat) : Prop where
  le : Mle M M'
  only : ∀ b o, M' b o ≠ M b o → b ∈ G
  cell : ∀ b o v, M' b o = some v → M b o = some v ∨ hcell h b o = some v
theorem Ext.refl (M : Mem) (h : Nat → Option Obj) (G : List Nat) : Ext M M h G := ⟨Mle.refl _, fun b o e => absurd rfl e, fun b o v e => .inl e⟩
theorem Ext.trans {M M1 M2 : Mem} {h : Nat → Option Obj} {G1 G2 : List Nat} (h1 : Ext M M1 h G1) (h2 : Ext M1 M2 h G2) : Ext M M2 h (G1 ++ G2) :=
  ⟨h1.le.trans h2.le, fun b o e => by
    by_cases e1 : M1 b o = M b o
    · exact List.mem_append_right _ (h2.only b o (by rw [e1]; exact e))
    · exact List.mem_append_left _ (h1.only b o e1),
   fun b o v e => (h2.cell b o v e).elim (fun e => h1.cell b o v e) .inr⟩
theorem Ext.same {M M' : Mem} {h : Nat → Option Obj} {G : List Nat} (e : Ext M M' h G) {b : Nat} (hb : b ∉ G) (o : Nat) : M' b o = M b o :=
  Classical.byContradiction fun k => hb (e.only b o k)
theorem ownR_lst {M : Mem} {h : Nat → Option Obj} {t : Ty} {xs : List t.den} {v : Value} {G : List Nat} (k : ownR M h t xs true v G) : lstR M t xs v := by
  rcases k with ⟨h1, h2, h3⟩ | ⟨h1, h2, h3, h4⟩ | ⟨g, off, cap, cs, e, us, h1, h2, h3, h4, h5, h6, h7, h8, h9, h10⟩
  · subst h2; rw [h3]; exact lstR_nil M t 0
  · exact h3
  · rw [h2]; exact lstR_of_rows h7 h4 (h9 rfl)
theorem ownR_seal {M : Mem} {h : Nat → Option Obj} {t : Ty} {xs : List t.den} {s : Bool} {v : Value} {G : List Nat} (k : ownR M h t xs s v G) : ∃ M', Ext M M' h G ∧ ownR M' h t xs true v G := by
  cases s with
  | true => exact ⟨M, Ext.refl _ _ _, k⟩
  | false =>
    rcases k with h1 | ⟨h1, h2, h3, h4⟩ | ⟨g, off, cap, cs, e, us, h1, h2, h3, h4, h5, h6, h7, h8, h9, h10⟩
    · exact ⟨M, Ext.refl _ _ _, .inl h1⟩
    · cases h2
    · have hn : ∀ o, M g o = none := fun o => h10 o (.inl rfl)
      have hul := rowsR_len h7
      let M' : Mem := fun b o => if b = g ∧ off ≤ o ∧ o < off + us.length then us[o - off]? else M b o
      have hle : Mle M M' := fun b o v hv => by
        show (if _ then _ else _) = _
        split
        · rename_i hc; rw [hc.1, hn o] at hv; cases hv
        · exact hv
      refine ⟨M', ⟨hle, fun b o hb => ?_, fun b o v hv => ?_⟩, .inr (.inr ⟨g, off, cap, cs, e, us, h1, h2, h3, h4, h5, h6, rowsR_mono hle h7, h8, fun _ j u hj => ?_, fun o ho => ?_⟩)⟩
      · rw [h1]
        have : b = g := Classical.byContradiction fun hne => hb (if_neg (fun hc => hne hc.1))
        rw [this]; simp
      · change (if _ then _ else _) = _ at hv
        split at hv
        · rename_i hc
          refine .inr ?_
          unfold hcell
          rw [hc.1, h3]
          rw [← h8, List.getElem?_take, if_pos (by omega), List.getElem?_drop] at hv
          rw [show off + (o - off) = o by omega] at hv
          simpa using hv
        · exact .inl hv
      · have hj' := (List.getElem?_eq_some_iff.1 hj).1
        show (if _ then _ else _) = _
        rw [if_pos ⟨rfl, by omega, by omega⟩, show off + j - off = j by omega]; exact hj
      · have ho' : off + us.length ≤ o := by rcases ho with h | h; · cases h
                                             · rw [hul]; exact h
        show (if _ then _ else _) = _
        rw [if_neg (by omega)]; exact hn o

theorem CR_noG {E : En} {v : V} {x : Value} {G : List Nat} (ho : isOwn v = false) (h : CR E v x G) : G = [] := by
  cases v
  case undef => exact h
  case dead => exact h
  case alias => exact h.elim
  case ep => exact h.elim
  case agg => exact h.elim
  case tup => exact h.elim
  case list t xs o => cases o <;> first | exact h.2 | cases ho
  all_goals exact h.2
def isAgg : V → Bool
  | .agg _ => true
  | _ => false
theorem CR_of_TR {E : En} {v : V} {x : Value} {G : List Nat} (ha : isAgg v = false) (h : TR E v x G) : CR E v x G := by
  cases v
  case agg => cases ha
  all_goals exact h
theorem TR_noG {E : En} {v : V} {x : Value} {G : List Nat} (ho : isOwn v = false) (h : TR E v x G) : G = [] := by
  cases v
  case agg => exact h.2
  all_goals exact CR_noG ho (CR_of_TR rfl h)
theorem LsR_noG {R : V → Value → List Nat → Prop} (hR : ∀ v x G, isOwn v = false → R v x G → G = []) : ∀ {vs : List V} {xs : List Value} {G : List Nat}, anyV isOwn vs = false → LsR R vs xs G → G = []
  | [], [], _, _, h => h
  | v :: vs, x :: xs, G, ha, ⟨G1, G2, e, h1, h2⟩ => by
    simp only [anyV, Bool.or_eq_false_iff] at ha
    rw [e, hR v x G1 ha.1 h1, LsR_noG hR ha.2 h2]; rfl
  | [], _ :: _, _, _, h => h.elim
  | _ :: _, [], _, _, h => h.elim
theorem CR_copy {E : En} {v : V} {x : Value} {G : List Nat} (ho : isOpen v = false) (h : CR E v x G) : CR E (noL v) x [] := by
  cases v
  case undef => exact rfl
  case dead => exact rfl
  case alias => exact h.elim
  case ep => exact h.elim
  case agg => exact h.elim
  case tup => exact h.elim
  case list t xs o =>
    cases o
    case no => exact ⟨h.1, rfl⟩
    case nil => obtain ⟨⟨h1, h2⟩, _⟩ := h; subst h1; exact ⟨by rw [h2]; exact lstR_nil _ _ _, rfl⟩
    case own s f =>
      cases s
      · cases ho
      · exact ⟨ownR_lst h, rfl⟩
  all_goals exact ⟨h.1, rfl⟩
theorem TR_copy {E : En} {v : V} {x : Value} {G : List Nat} (ho : isOpen v = false) (h : TR E v x G) : TR E (noL v) x [] := by
  cases v
  case agg => exact ⟨h.1, rfl⟩
  all_goals exact CR_copy ho (CR_of_TR rfl h)
theorem LsR_copy {R : V → Value → List Nat → Prop} (hR : ∀ v x G, isOpen v = false → R v x G → R (noL v) x []) : ∀ {vs : List V} {xs : List Value} {G : List Nat}, anyV isOpen vs = false → LsR R vs xs G → LsR R (vs.map noL) xs []
  | [], [], _, _, h => rfl
  | v :: vs, x :: xs, G, ha, ⟨G1, G2, e, h1, h2⟩ => by
    simp only [anyV, Bool.or_eq_false_iff] at ha
    exact ⟨[], [], rfl, hR v x G1 ha.1 h1, LsR_copy hR ha.2 h2⟩
  | [], _ :: _, _, _, h => h.elim
  | _ :: _, [], _, _, h => h.elim
theorem CR_seal {M : Mem} {h : Nat → Option Obj} {ι : Nat → Nat} {old : Key → Option Value} {v : V} {x : Value} {G : List Nat} (k : CR ⟨M, h, ι, old⟩ v x G) : ∃ M', Ext M M' h G ∧ CR ⟨M', h, ι, old⟩ (shutL v) x G := by
  cases v
  case list t xs o =>
    cases o
    case own s f =>
      obtain ⟨M', e, h'⟩ := ownR_seal k
      exact ⟨M', e, h'⟩
    all_goals exact ⟨M, Ext.refl _ _ _, k⟩
  all_goals exact ⟨M, Ext.refl _ _ _, k⟩
theorem TR_seal {M : Mem} {h : Nat → Option Obj} {ι : Nat → Nat} {old : Key → Option Value} {v : V} {x : Value} {G : List Nat} (k : TR ⟨M, h, ι, old⟩ v x G) : ∃ M', Ext M M' h G ∧ TR ⟨M', h, ι, old⟩ (shutL v) x G := by
  cases v
  case list t xs o =>
    obtain ⟨M', e, h'⟩ := CR_seal (v := .list t xs o) k
    refine ⟨M', e, ?_⟩
    cases o <;> exact h'
  all_goals exact ⟨M, Ext.refl _ _ _, k⟩
theorem LsR_seal {h : Nat → Option Obj} {ι : Nat → Nat} {old : Key → Option Value} {R : En → V → Value → List Nat → Prop}
    (hR : ∀ {M : Mem} {v : V} {x : Value} {G : List Nat}, R ⟨M, h, ι, old⟩ v x G → ∃ M', Ext M M' h G ∧ R ⟨M', h, ι, old⟩ (shutL v) x G)
    (hm : ∀ {M M' : Mem} {v : V} {x : Value} {G : List Nat}, Mle M M' → (∀ g ∈ G, ∀ o, M' g o = M g o) → R ⟨M, h, ι, old⟩ v x G → R ⟨M', h, ι, old⟩ v x G) :
    ∀ {vs : List V} {xs : List Value} {G : List Nat} {M : Mem}, G.Nodup → LsR (R ⟨M, h, ι, old⟩) vs xs G → ∃ M', Ext M M' h G ∧ LsR (R ⟨M', h, ι, old⟩) (vs.map shutL) xs G
  | [], [], _, M, _, h => ⟨M, Ext.refl _ _ _, h⟩
  | v :: vs, x :: xs, G, M, hn, ⟨G1, G2, e, h1, h2⟩ => by
    rw [e] at hn
    obtain ⟨n1, n2, n3⟩ := List.nodup_append.1 hn
    obtain ⟨M1, e1, h1'⟩ := hR h1
    have h2' : LsR (R ⟨M1, h, ι, old⟩) vs xs G2 := LsR_mono (fun v hv x G' hG' k => hm e1.le (fun g hg o => e1.same (fun hg' => n3 g hg' g (hG' g hg) rfl) o) k) h2
    obtain ⟨M2, e2, h2''⟩ := LsR_seal hR hm n2 h2'
    refine ⟨M2, by rw [e]; exact e1.trans e2, G1, G2, e, hm e2.le (fun g hg o => e2.same (fun hg' => n3 g hg g hg' rfl) o) h1', h2''⟩
  | [], _ :: _, _, _, _, h => h.elim
  | _ :: _, [], _, _, _, h => h.elim
theorem CR_goes {E : En} {v : V} {x : Value} {G : List Nat} (h : CR E v x G) : CR E (goL v) x G := by
  cases v <;> try exact h
  rename_i t xs o; cases o <;> exact h
theorem TR_goes {E : En} {v : V} {x : Value} {G : List Nat} (h : TR E v x G) : TR E (goL v) x G := by
  cases v <;> try exact h
  rename_i t xs o; cases o <;> exact h
theorem CR_leave {E : En} {v : V} {x : Value} {G : List Nat} (h : CR E v x G) : CR E (leaveL v) x [] := by
  cases v
  case undef => exact rfl
  case dead => exact rfl
  case alias => exact h.elim
  case ep => exact h.elim
  case agg => exact h.elim
  case tup => exact h.elim
  case list t xs o =>
    cases o
    case own s f => exact rfl
    all_goals exact ⟨h.1, rfl⟩
  all_goals exact ⟨h.1, rfl⟩
theorem TR_leave {E : En} {v : V} {x : Value} {G : List Nat} (h : TR E v x G) : TR E (leaveL v) x [] := by
  cases v
  case agg => exact ⟨h.1, rfl⟩
  case list t xs o =>
    have := CR_leave (v := .list t xs o) h
    cases o <;> exact this
  all_goals exact CR_leave (CR_of_TR rfl h)
theorem LsR_leave {R : V → Value → List Nat → Prop} (hR : ∀ v x G, R v x G → R (leaveL v) x []) : ∀ {vs : List V} {xs : List Value} {G : List Nat}, LsR R vs xs G → LsR R (vs.map leaveL) xs []
  | [], [], _, h => rfl
  | v :: vs, x :: xs, G, ⟨G1, G2, e, h1, h2⟩ => ⟨[], [], rfl, hR v x G1 h1, LsR_leave hR h2⟩
  | [], _ :: _, _, h => h.elim
  | _ :: _, [], _, h => h.elim
theorem shut_open (v : V) : isOpen (shutL v) = false := by
  cases v <;> try rfl
  rename_i t xs o; cases o <;> rfl
theorem no_shut (v : V) : noL (shutL v) = noL v := by
  cases v <;> try rfl
  rename_i t xs o; cases o <;> rfl
theorem any_shut : ∀ cs : List V, anyV isOpen (cs.map shutL) = false
  | [] => rfl
  | v :: cs => by rw [List.map_cons, anyV, shut_open, any_shut cs]; rfl
theorem map_no_shut (cs : List V) : (cs.map shutL).map noL = cs.map noL := by rw [List.map_map]; congr 1; funext v; exact no_shut v
theorem refs2_no (v : V) : refs2 (noL v) = refs2 v := by cases v <;> rfl
theorem refs3_no (v : V) : refs3 (noL v) = refs3 v := by cases v <;> rfl
theorem refs2_shut (v : V) : refs2 (shutL v) = refs2 v := by
  cases v <;> try rfl
  rename_i t xs o; cases o <;> rfl
theorem refs3_shut (v : V) : refs3 (shutL v) = refs3 v := by
  cases v <;> try rfl
  rename_i t xs o; cases o <;> rfl
theorem refs2_go (v : V) : refs2 (goL v) = refs2 v := by
  cases v <;> try rfl
  rename_i t xs o; cases o <;> rfl
theorem refs3_go (v : V) : refs3 (goL v) = refs3 v := by
  cases v <;> try rfl
  rename_i t xs o; cases o <;> rfl
theorem refs2_leave (v : V) : refs2 (leaveL v) = refs2 v := by
  cases v <;> try rfl
  rename_i t xs o; cases o <;> rfl
theorem refs3_leave (v : V) : refs3 (leaveL v) = refs3 v := by
  cases v <;> try rfl
  rename_i t xs o; cases o <;> rfl
theorem VR_any {M : Mem} {h : Nat → Option Obj} {ι : Nat → Nat} {old old' : Key → Option Value} {v : V} {x : Value} {G : List Nat} (hk : keys1 v = []) (k : VR ⟨M, h, ι, old⟩ v x G) : VR ⟨M, h, ι, old'⟩ v x G :=
  VR_mono (⟨Mle.refl _, fun _ _ => ⟨rfl, fun _ => rfl⟩, fun _ _ => rfl⟩ : En.le ⟨M, h, ι, old⟩ ⟨M, h, ι, old'⟩ v.refs G) (fun q hq => by rw [hk] at hq; cases hq) k
theorem CR_any {M : Mem} {h : Nat → Option Obj} {ι : Nat → Nat} {old old' : Key → Option Value} {v : V} {x : Value} {G : List Nat} (k : CR ⟨M, h, ι, old⟩ v x G) : CR ⟨M, h, ι, old'⟩ v x G :=
  CR_mono (⟨Mle.refl _, fun _ _ => ⟨rfl, fun _ => rfl⟩, fun _ _ => rfl⟩ : En.le ⟨M, h, ι, old⟩ ⟨M, h, ι, old'⟩ (refs2 v) G) k
theorem CR_wide {h : Nat → Option Obj} {ι : Nat → Nat} {old : Key → Option Value} {M M' : Mem} {v : V} {x : Value} {G : List Nat} (hM : Mle M M') (hG : ∀ g ∈ G, ∀ o, M' g o = M g o) (k : CR ⟨M, h, ι, old⟩ v x G) : CR ⟨M', h, ι, old⟩ v x G :=
  CR_mono (⟨hM, fun x hx => ⟨rfl, hG x hx⟩, fun _ _ => rfl⟩ : En.le ⟨M, h, ι, old⟩ ⟨M', h, ι, old⟩ (refs2 v) G) k
theorem TR_wide {h : Nat → Option Obj} {ι : Nat → Nat} {old : Key → Option Value} {M M' : Mem} {v : V} {x : Value} {G : List Nat} (hM : Mle M M') (hG : ∀ g ∈ G, ∀ o, M' g o = M g o) (k : TR ⟨M, h, ι, old⟩ v x G) : TR ⟨M', h, ι, old⟩ v x G :=
  TR_mono (⟨hM, fun x hx => ⟨rfl, hG x hx⟩, fun _ _ => rfl⟩ : En.le ⟨M, h, ι, old⟩ ⟨M', h, ι, old⟩ (refs3 v) G) k
section
variable {B : Bs} {X X' : List Nat} {g : Key → V} {n : Nat} {a : Act} {w : World} {M : Mem} {ι : Nat → Nat} {Gs : Key → List Nat} {C : CallR}
theorem Sim.at (hs : Sim B X g n a w M ι Gs) {k : Key} (h : isUndef (g k) = false) : ∃ v, valAt a (fun k => w.heap[k]?) ι k = some v ∧ VR (enOf g a (fun k => w.heap[k]?) M ι) (g k) v (Gs k) ∧ ((∃ b j, k = .c b j) → isCell (g k) = true ∧ keys1 (g k) = []) := by
  cases k with
  | s i => exact ⟨_, rfl, hs.slot i, fun ⟨b, j, e⟩ => by cases e⟩
  | c b j =>
    have hb : live g b := Classical.byContradiction fun hb => by rw [hs.gone b hb j] at h; cases h
    obtain ⟨cs, t, h1, h2⟩ := hs.box b hb
    have hj : j < cs.size := (h2 j).1 h
    have h3 := ((h2 j).2 _ (Array.getElem?_eq_getElem hj)).2
    exact ⟨cs[j], by simp only [valAt, h1]; exact Array.getElem?_eq_getElem hj, VR_of_CR h3, fun _ => ⟨CR_cell h3, CR_keys h3⟩⟩
theorem Sim.reseat (hs : Sim B X g n a w M ι Gs) {k : Key} {V' : V} {Gn Gf : List Nat} {M' : Mem} (hund : isUndef (g k) = false) (hext : Ext M M' (fun k => w.heap[k]?) (Gs k))
    (hV : ∀ v, valAt a (fun k => w.heap[k]?) ι k = some v → VR ⟨M', fun k => w.heap[k]?, ι, fun _ => none⟩ V' v Gn)
    (hkeys : keys1 V' = []) (hcell : isCell (g k) = true → isCell V' = true) (hold : isOld V' = true → isOld (g k) = true) (hu : isUndef V' = false) (hr : ∀ b ∈ V'.refs, b ∈ (g k).refs)
    (hGn : (Gn = Gs k ∧ Gf = []) ∨ (Gn = [] ∧ Gf = Gs k)) : Sim B (Gf ++ X) (gput g k V') n a w M' ι (upd Gs k Gn) := by
  refine hs.relabel hext.le (fun b o e => .inl (hext.only b o e)) (fun b o v hv => (hext.cell b o v hv).elim (hs.stable b o v) hcell_cell) hV hkeys (fun hc => ?_) hold (by rw [hu, hund]) (fun b hb => hs.refs k b (hr b hb)) ?_ ?_ ?_ (fun h => by rw [hu] at h; cases h)
  · obtain ⟨v, _, _, h3⟩ := hs.at hund
    exact hcell (h3 hc).1
  · rcases hGn with ⟨h, _⟩ | ⟨h, _⟩
    · rw [h]; exact fun x hx => .inl hx
    · rw [h]; exact fun x hx => by cases hx
  · rcases hGn with ⟨h, _⟩ | ⟨h, _⟩
    · rw [h]; exact hs.nodup k
    · rw [h]; exact List.nodup_nil
  · intro x hx
    rcases hGn with ⟨h, h'⟩ | ⟨h, h'⟩
    · rw [h'] at hx; rw [h]; exact ⟨.inl hx, (hs.spare x hx).2.1 k⟩
    · rw [h'] at hx; rw [h]
      exact ⟨(List.mem_append.1 hx).elim .inr .inl, fun h => by cases h⟩
/-- a value in hand, to be put elsewhere -/
def GetsG (B : Bs) (X : List Nat) (g : Key → V) (n : Nat) (a : Act) (w : World) (M : Mem) (ι : Nat → Nat) (Gs : Key → List Nat) (ws : WS) (u : V) (x : Value) (Gn : List Nat) : Prop :=
  ∃ M' Gs', Sim B (Gn ++ X) (gputs g ws) n a w M' ι Gs' ∧ (∀ old, VR ⟨M', fun k => w.heap[k]?, ι, old⟩ u x Gn) ∧ Mle M M' ∧ (∀ b o, M' b o ≠ M b o → ∃ k, b ∈ Gs k) ∧ Gn.Nodup ∧ (∀ y ∈ Gn, ∃ k, y ∈ Gs k) ∧
    keys1 u = [] ∧ isOld u = false ∧ isUndef u = false ∧ (∀ b ∈ u.refs, live g b) ∧ ∀ k, isUndef (gputs g ws k) = isUndef (g k)
def Gets (B : Bs) (X : List Nat) (g : Key → V) (n : Nat) (a : Act) (w : World) (M : Mem) (ι : Nat → Nat) (Gs : Key → List Nat) (ws : WS) (u : V) (x : Value) : Prop := ∃ Gn, GetsG B X g n a w M ι Gs ws u x Gn
theorem GetsG.plain (hs : Sim B X g n a w M ι Gs) {u : V} {x : Value} (hu : VR ⟨M, fun k => w.heap[k]?, ι, fun _ => none⟩ u x []) (hk : keys1 u = []) (ho : isOld u = false) (hd : isUndef u = false) (hr : ∀ b ∈ u.refs, live g b) : GetsG B X g n a w M ι Gs [] u x [] :=
  ⟨M, Gs, hs, fun old => VR_any hk hu, Mle.refl _, fun b o e => absurd rfl e, List.nodup_nil, (fun y hy => by cases hy), hk, ho, hd, hr, fun _ => rfl⟩
theorem Gets.plain (hs : Sim B X g n a w M ι Gs) {u : V} {x : Value} (hu : VR ⟨M, fun k => w.heap[k]?, ι, fun _ => none⟩ u x []) (hk : keys1 u = []) (ho : isOld u = false) (hd : isUndef u = false) (hr : ∀ b ∈ u.refs, live g b) : Gets B X g n a w M ι Gs [] u x :=
  ⟨[], .plain hs hu hk ho hd hr⟩
theorem gput_undef {g : Key → V} {k : Key} {V' : V} (h : isUndef V' = isUndef (g k)) (k' : Key) : isUndef (gput g k V' k') = isUndef (g k') := by
  by_cases e : k = k'
  · subst e; rw [gput_self, h]
  · rw [gput_ne _ e]
/-- with the source seen otherwise: sealed -/
theorem GetsG.shut (hs : Sim B X g n a w M ι Gs) {k : Key} {V' u : V} {x : Value} {M' : Mem} (hund : isUndef (g k) = false) (hext : Ext M M' (fun k => w.heap[k]?) (Gs k))
    (hx : valAt a (fun k => w.heap[k]?) ι k = some x) (hV : VR ⟨M', fun k => w.heap[k]?, ι, fun _ => none⟩ V' x (Gs k))
    (hkeys : keys1 V' = []) (hcell : isCell (g k) = true → isCell V' = true) (hold : isOld V' = true → isOld (g k) = true) (hu' : isUndef V' = false) (hr' : V'.refs = (g k).refs)
    (hu : VR ⟨M', fun k => w.heap[k]?, ι, fun _ => none⟩ u x []) (hk : keys1 u = []) (ho : isOld u = false) (hd : isUndef u = false) (hr : ∀ b ∈ u.refs, live g b) : GetsG B X g n a w M ι Gs [(k, V')] u x [] :=
  ⟨M', upd Gs k (Gs k), hs.reseat hund hext (fun v hv => by rw [hx] at hv; cases hv; exact hV) hkeys hcell hold hu' (fun b hb => by rw [← hr']; exact hb) (.inl ⟨rfl, rfl⟩), fun old => VR_any hk hu, hext.le,
    fun b o e => ⟨k, hext.only b o e⟩, List.nodup_nil, (fun y hy => by cases hy), hk, ho, hd, hr, gput_undef (by rw [hu', hund])⟩
/-- with the source left -/
theorem Gets.left (hs : Sim B X g n a w M ι Gs) {k : Key} {V' u : V} {x : Value} (hund : isUndef (g k) = false)
    (hx : valAt a (fun k => w.heap[k]?) ι k = some x) (hV : VR ⟨M, fun k => w.heap[k]?, ι, fun _ => none⟩ V' x [])
    (hkeys : keys1 V' = []) (hcell : isCell (g k) = true → isCell V' = true) (hold : isOld V' = true → isOld (g k) = true) (hu' : isUndef V' = false) (hr' : ∀ b ∈ V'.refs, b ∈ (g k).refs)
    (hu : VR ⟨M, fun k => w.heap[k]?, ι, fun _ => none⟩ u x (Gs k)) (hk : keys1 u = []) (ho : isOld u = false) (hd : isUndef u = false) (hr : ∀ b ∈ u.refs, live g b) : Gets B X g n a w M ι Gs [(k, V')] u x :=
  ⟨Gs k, M, upd Gs k [], hs.reseat hund (Ext.refl _ _ _) (fun v hv => by rw [hx] at hv; cases hv; exact hV) hkeys hcell hold hu' hr' (.inr ⟨rfl, rfl⟩), fun old => VR_any hk hu, Mle.refl _,
    fun b o e => absurd rfl e, hs.nodup k, (fun y hy => ⟨k, hy⟩), hk, ho, hd, hr, gput_undef (by rw [hu', hund])⟩
theorem VR_old {E : En} {v : V} {x : Value} {G : List Nat} {old : Key → Option Value} (hk : keys1 v = []) (h : VR E v x G) : VR ⟨E.M, E.h, E.ι, old⟩ v x G := VR_any hk h
theorem AR_old {E : En} {v : V} {x : Value} {G : List Nat} {old : Key → Option Value} (h : AR E v x G) : AR ⟨E.M, E.h, E.ι, old⟩ v x G :=
  AR_mono (⟨Mle.refl _, fun _ _ => ⟨rfl, fun _ => rfl⟩, fun _ _ => rfl⟩ : En.le E ⟨E.M, E.h, E.ι, old⟩ (refs3 v) G) h
theorem plainAt_sound (hs : Sim B X g n a w M ι Gs) {k : Option Key} {v u : V} {x : Value} {G0 : List Nat} {rs : List Key} {ws : WS} (hk : ∀ q, k = some q → g q = v ∧ valAt a (fun k => w.heap[k]?) ι q = some x ∧ Gs q = G0)
    (hx : VR (enOf g a (fun k => w.heap[k]?) M ι) v x G0) (hn : G0.Nodup) (hrefs : ∀ b ∈ v.refs, live g b) (hr : Run C g (plainAt k v) rs (u, ws)) : GetsG B X g n a w M ι Gs ws u x [] := by
  cases v
  case undef => exact hr.fail_inv.elim
  case skip => exact hr.fail_inv.elim
  case dead => exact hr.fail_inv.elim
  case ep => exact hr.fail_inv.elim
  case list t xs o =>
    cases o
    case no => obtain ⟨e, _⟩ := hr.ret_inv; cases e; exact .plain hs (VR_old rfl (by rw [hx.2] at hx; exact hx)) rfl rfl rfl hrefs
    case nil => obtain ⟨e, _⟩ := hr.ret_inv; cases e; exact .plain hs (VR_old rfl (by rw [hx.2] at hx; exact hx)) rfl rfl rfl hrefs
    case own s f =>
      cases s
      · cases k with
        | none => exact hr.fail_inv.elim
        | some q =>
          obtain ⟨e, _⟩ := hr.ret_inv; cases e
          obtain ⟨h1, h2, h3⟩ := hk q rfl
          obtain ⟨M', e, h'⟩ := ownR_seal (show ownR M (fun k => w.heap[k]?) t xs false x G0 from hx)
          subst h3
          refine .shut hs (by rw [h1]; rfl) e h2 h' rfl (fun _ => rfl) (fun h => ?_) rfl (by rw [h1]; rfl) ⟨ownR_lst h', rfl⟩ rfl rfl rfl (fun b hb => by cases hb)
          rw [h1]; cases f <;> first | rfl | cases h
      · have hp : VR ⟨M, fun k => w.heap[k]?, ι, fun _ => none⟩ (.list t xs .no) x [] := ⟨ownR_lst hx, rfl⟩
        cases k with
        | none => obtain ⟨e, _⟩ := hr.ret_inv; cases e; exact .plain hs hp rfl rfl rfl (fun b hb => by cases hb)
        | some q => obtain ⟨e, _⟩ := hr.ret_inv; cases e; exact .plain hs hp rfl rfl rfl (fun b hb => by cases hb)
  case agg cs =>
    obtain ⟨vals, e1, hc⟩ := hx
    have hr2 : V.refs (.agg (cs.map noL)) = V.refs (.agg cs) := flatMap_map_eq noL refs2 refs2_no cs
    cases ho : anyV isOpen cs with
    | false =>
      simp only [plainAt, ho] at hr
      have hp : VR ⟨M, fun k => w.heap[k]?, ι, fun _ => none⟩ (.agg (cs.map noL)) x [] := ⟨vals, e1, LsR_copy (R := CR _) (fun v x G => CR_copy) ho (LsR_mono (fun v _ x G' _ k => CR_any k) hc)⟩
      obtain ⟨e, _⟩ := hr.ret_inv; cases e
      exact .plain hs hp rfl rfl rfl (fun b hb => hrefs b (by rw [← hr2]; exact hb))
    | true =>
      simp only [plainAt, ho] at hr
      cases k with
      | none => exact hr.fail_inv.elim
      | some q =>
        obtain ⟨e, _⟩ := hr.ret_inv; cases e
        obtain ⟨h1, h2, h3⟩ := hk q rfl
        subst h3
        obtain ⟨M', e, h'⟩ := LsR_seal (R := CR) (fun k => CR_seal k) (fun a b k => CR_wide a b k) hn (LsR_mono (fun v _ x G' _ k => CR_any (old' := fun _ => none) k) hc)
        refine .shut hs (by rw [h1]; rfl) e h2 ⟨vals, e1, h'⟩ rfl (fun h => by rw [h1] at h; cases h) (fun h => by cases h) rfl (by rw [h1]; exact flatMap_map_eq shutL refs2 refs2_shut cs)
          ⟨vals, e1, by rw [← map_no_shut]; exact LsR_copy (R := CR _) (fun v x G => CR_copy) (any_shut cs) h'⟩ rfl rfl rfl (fun b hb => hrefs b (by rw [← hr2]; exact hb))
  case tup cs =>
    obtain ⟨vals, e1, hc⟩ := hx
    have hr2 : V.refs (.tup (cs.map noL)) = V.refs (.tup cs) := flatMap_map_eq noL refs3 refs3_no cs
    have hany : ∀ {v : V} {x : Value} {G : List Nat}, TR (enOf g a (fun k => w.heap[k]?) M ι) v x G → TR ⟨M, fun k => w.heap[k]?, ι, fun _ => none⟩ v x G := fun {v x G} k =>
      TR_mono (⟨Mle.refl _, fun _ _ => ⟨rfl, fun _ => rfl⟩, fun _ _ => rfl⟩ : En.le (enOf g a (fun k => w.heap[k]?) M ι) ⟨M, fun k => w.heap[k]?, ι, fun _ => none⟩ (refs3 v) G) k
    cases ho : anyV isOpen cs with
    | false =>
      simp only [plainAt, ho] at hr
      have hp : VR ⟨M, fun k => w.heap[k]?, ι, fun _ => none⟩ (.tup (cs.map noL)) x [] := ⟨vals, e1, LsR_copy (R := TR _) (fun v x G => TR_copy) ho (LsR_mono (fun v _ x G' _ k => hany k) hc)⟩
      obtain ⟨e, _⟩ := hr.ret_inv; cases e
      exact .plain hs hp rfl rfl rfl (fun b hb => hrefs b (by rw [← hr2]; exact hb))
    | true =>
      simp only [plainAt, ho] at hr
      cases k with
      | none => exact hr.fail_inv.elim
      | some q =>
        obtain ⟨e, _⟩ := hr.ret_inv; cases e
        obtain ⟨h1, h2, h3⟩ := hk q rfl
        subst h3
        obtain ⟨M', e, h'⟩ := LsR_seal (R := TR) (fun k => TR_seal k) (fun a b k => TR_wide a b k) hn (LsR_mono (fun v _ x G' _ k => hany k) hc)
        refine .shut hs (by rw [h1]; rfl) e h2 ⟨vals, e1, h'⟩ rfl (fun h => by rw [h1] at h; cases h) (fun h => by cases h) rfl (by rw [h1]; exact flatMap_map_eq shutL refs3 refs3_shut cs)
          ⟨vals, e1, by rw [← map_no_shut]; exact LsR_copy (R := TR _) (fun v x G => TR_copy) (any_shut cs) h'⟩ rfl rfl rfl (fun b hb => hrefs b (by rw [← hr2]; exact hb))
  case alias q =>
    obtain ⟨r, _, hr⟩ := hr.rd_inv
    have hold : isOld (g q) = true → ∀ v', valAt a (fun k => w.heap[k]?) ι q = some v' → x = v' := fun h v' hv => hx.1 v' (by simp only [enOf, oldAt]; rw [if_pos h]; exact hv)
    split at hr
    · rename_i t xs h1
      obtain ⟨e, _⟩ := hr.ret_inv; cases e
      obtain ⟨v', h2, h3, h4⟩ := hs.at (k := q) (by rw [h1]; rfl)
      have hx' := hold (by rw [h1]; rfl) v' h2
      subst hx'
      rw [h1] at h3
      obtain ⟨M', e, h'⟩ := ownR_seal (show ownR M (fun k => w.heap[k]?) t xs false x (Gs q) from h3)
      exact .shut hs (by rw [h1]; rfl) e h2 h' rfl (fun _ => rfl) (fun h => by rw [h1]; rfl) rfl (by rw [h1]; rfl) ⟨ownR_lst h', rfl⟩ rfl rfl rfl (fun b hb => by cases hb)
    · rename_i t xs h1
      obtain ⟨e, _⟩ := hr.ret_inv; cases e
      obtain ⟨v', h2, h3, h4⟩ := hs.at (k := q) (by rw [h1]; rfl)
      have hx' := hold (by rw [h1]; rfl) v' h2
      subst hx'
      rw [h1] at h3
      exact .plain hs ⟨ownR_lst (h := fun k => w.heap[k]?) h3, rfl⟩ rfl rfl rfl (fun b hb => by cases hb)
    · exact hr.fail_inv.elim
  all_goals (obtain ⟨e, _⟩ := hr.ret_inv; cases e; exact .plain hs (VR_old rfl (by rw [hx.2] at hx; exact hx)) rfl rfl rfl hrefs)
theorem moveAt_sound (hs : Sim B X g n a w M ι Gs) {k : Option Key} {v u : V} {x : Value} {G0 : List Nat} {rs : List Key} {ws : WS} (hk : ∀ q, k = some q → g q = v ∧ valAt a (fun k => w.heap[k]?) ι q = some x ∧ Gs q = G0)
    (hx : VR (enOf g a (fun k => w.heap[k]?) M ι) v x G0) (hn : G0.Nodup) (hrefs : ∀ b ∈ v.refs, live g b) (hr : Run C g (moveAt k v) rs (u, ws)) : Gets B X g n a w M ι Gs ws u x := by
  cases v
  case list t xs o =>
    cases o
    case own s f =>
      cases k with
      | none => exact hr.fail_inv.elim
      | some q =>
        obtain ⟨e, _⟩ := hr.ret_inv; cases e
        obtain ⟨h1, h2, h3⟩ := hk q rfl
        subst h3
        exact .left hs (by rw [h1]; rfl) h2 rfl rfl (fun _ => rfl) (fun h => by cases h) rfl (fun b hb => by cases hb) (show ownR _ _ t xs s x _ from hx) rfl rfl rfl (fun b hb => by cases hb)
    all_goals exact ⟨[], plainAt_sound hs hk hx hn hrefs hr⟩
  case agg cs =>
    obtain ⟨vals, e1, hc⟩ := hx
    have hc' : LsR (CR ⟨M, fun k => w.heap[k]?, ι, fun _ => none⟩) cs vals G0 := LsR_mono (fun v _ x G' _ k => CR_any k) hc
    have hr2 : V.refs (.agg (cs.map goL)) = V.refs (.agg cs) := flatMap_map_eq goL refs2 refs2_go cs
    cases ho : anyV isOwn cs with
    | false =>
      simp only [moveAt, ho] at hr
      obtain ⟨e, _⟩ := hr.ret_inv; cases e
      have hg := LsR_noG (R := CR _) (fun v x G => CR_noG) ho hc'
      exact .plain hs ⟨vals, e1, by rw [← hg]; exact hc'⟩ rfl rfl rfl hrefs
    | true =>
      simp only [moveAt, ho] at hr
      cases k with
      | none => exact hr.fail_inv.elim
      | some q =>
        obtain ⟨e, _⟩ := hr.ret_inv; cases e
        obtain ⟨h1, h2, h3⟩ := hk q rfl
        subst h3
        refine .left hs (by rw [h1]; rfl) h2 ⟨vals, e1, LsR_leave (R := CR _) (fun v x G => CR_leave) hc'⟩ rfl (fun h => by rw [h1] at h; cases h) (fun h => by cases h) rfl
          (fun b hb => by rw [h1]; rwa [show V.refs (.agg (cs.map leaveL)) = V.refs (.agg cs) from flatMap_map_eq leaveL refs2 refs2_leave cs] at hb) ⟨vals, e1, LsR_map goL (fun v x G => CR_goes) hc'⟩ rfl rfl rfl (fun b hb => hrefs b (by rw [← hr2]; exact hb))
  case tup cs =>
    obtain ⟨vals, e1, hc⟩ := hx
    have hc' : LsR (TR ⟨M, fun k => w.heap[k]?, ι, fun _ => none⟩) cs vals G0 := LsR_mono (fun v _ x G' _ k =>
      TR_mono (⟨Mle.refl _, fun _ _ => ⟨rfl, fun _ => rfl⟩, fun _ _ => rfl⟩ : En.le (enOf g a (fun k => w.heap[k]?) M ι) ⟨M, fun k => w.heap[k]?, ι, fun _ => none⟩ (refs3 v) G') k) hc
    have hr2 : V.refs (.tup (cs.map goL)) = V.refs (.tup cs) := flatMap_map_eq goL refs3 refs3_go cs
    cases ho : anyV isOwn cs with
    | false =>
      simp only [moveAt, ho] at hr
      obtain ⟨e, _⟩ := hr.ret_inv; cases e
      have hg := LsR_noG (R := TR _) (fun v x G => TR_noG) ho hc'
      exact .plain hs ⟨vals, e1, by rw [← hg]; exact hc'⟩ rfl rfl rfl hrefs
    | true =>
      simp only [moveAt, ho] at hr
      cases k with
      | none => exact hr.fail_inv.elim
      | some q =>
        obtain ⟨e, _⟩ := hr.ret_inv; cases e
        obtain ⟨h1, h2, h3⟩ := hk q rfl
        subst h3
        refine .left hs (by rw [h1]; rfl) h2 ⟨vals, e1, LsR_leave (R := TR _) (fun v x G => TR_leave) hc'⟩ rfl (fun h => by rw [h1] at h; cases h) (fun h => by cases h) rfl
          (fun b hb => by rw [h1]; rwa [show V.refs (.tup (cs.map leaveL)) = V.refs (.tup cs) from flatMap_map_eq leaveL refs3 refs3_leave cs] at hb) ⟨vals, e1, LsR_map goL (fun v x G => TR_goes) hc'⟩ rfl rfl rfl (fun b hb => hrefs b (by rw [← hr2]; exact hb))
  all_goals exact ⟨[], plainAt_sound hs hk hx hn hrefs hr⟩
end
end Go.Proofs.Ytkfphlmbdppbfaa.Vm
