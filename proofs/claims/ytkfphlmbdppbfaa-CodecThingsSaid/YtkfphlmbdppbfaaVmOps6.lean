/- The machine's operations are the model's: stores into variables. No condition. -/
import Derived.Test.YtkfphlmbdppbfaaVmOps5
import Derived.Deep.MidRow
namespace Go.Proofs.Ytkfphlmbdppbfaa.Vm
open Go Go.RowKit
set_option linter.unusedVariables false
set_option linter.unusedSimpArgs false
theorem gput_gput (g : Key → V) (k : Key) (u v : V) : gput (gput g k u) k v = gput g k v := by
  funext k'; unfold gput; split <;> rfl
theorem upd_upd (Gs : Key → List Nat) (k : Key) (G G' : List Nat) : upd (upd Gs k G) k G' = upd Gs k G' := by
  funext k'; unfold upd; split <;> rfl
theorem cell_setCell {w : World} {b o : Nat} {cs : Array Value} {t : TypeId} (h : w.heap[b]? = some (.cells cs t (0, 0))) (v : Value) : (w.setCell ⟨b, o, none⟩ v).heap[b]? = some (.cells (cs.toList.set o v).toArray t (0, 0)) :=
  Blk.set (cs := cs.toList) (by simpa [Blk] using h) o v
theorem fr_setCell (w : World) (b o : Nat) (v : Value) : Fr [b] w (w.setCell ⟨b, o, none⟩ v) := (Fr.refl [b] w).set (.inl (by simp)) v
theorem cell_off {w : World} {b b' o o' : Nat} {v : Value} (h : b' ≠ b) : (w.setCell ⟨b, o, none⟩ v).cell? ⟨b', o', none⟩ = w.cell? ⟨b', o', none⟩ := by
  refine World.cell?_of_block (w := w) ?_
  exact Below.heap_setCell _ _ _ _ h
theorem CR_heap {M : Mem} {h h' : Nat → Option Obj} {ι : Nat → Nat} {old old' : Key → Option Value} {v : V} {x : Value} {G : List Nat} (hh : ∀ y ∈ G, h' y = h y) (k : CR ⟨M, h, ι, old⟩ v x G) : CR ⟨M, h', ι, old'⟩ v x G :=
  CR_mono (⟨Mle.refl _, fun y hy => ⟨hh y hy, fun _ => rfl⟩, fun _ _ => rfl⟩ : En.le ⟨M, h, ι, old⟩ ⟨M, h', ι, old'⟩ (refs2 v) G) k
theorem LsR_heap {M : Mem} {h h' : Nat → Option Obj} {ι : Nat → Nat} {old old' : Key → Option Value} {vs : List V} {xs : List Value} {G : List Nat} (hh : ∀ y ∈ G, h' y = h y) (k : LsR (CR ⟨M, h, ι, old⟩) vs xs G) : LsR (CR ⟨M, h', ι, old'⟩) vs xs G :=
  LsR_mono (fun v _ x G' hG' k => CR_heap (fun y hy => hh y (hG' y hy)) k) k
section
variable {P : Program} {B : Bs} {X X' : List Nat} {g : Key → V} {n : Nat} {a : Act} {w : World} {M : Mem} {ι : Nat → Nat} {Gs : Key → List Nat} {C : CallR}
theorem Sim.live_of (hs : Sim B X g n a w M ι Gs) {b j : Nat} (hu : isUndef (g (.c b j)) = false) : live g b :=
  Classical.byContradiction fun h => by rw [hs.gone b h j] at hu; cases hu
/-- a cell of a box takes a value -/
theorem Sim.setCell (hs : Sim B X g n a w M ι Gs) {b j : Nat} {V : V} {v : Value} {Gn : List Nat} (hu : isUndef (g (.c b j)) = false)
    (hV : CR ⟨M, fun k => w.heap[k]?, ι, fun _ => none⟩ V v Gn) (hV0 : isUndef V = false) (hold : isOld V = false) (hr : ∀ b ∈ V.refs, live g b)
    (hG : ∀ y ∈ Gn, y ∈ X) (hn : Gn.Nodup) (hX : ∀ y ∈ X', y ∈ X ∧ y ∉ Gn) :
    Sim B X' (gput g (.c b j) V) n a (w.setCell ⟨ι b, j, none⟩ v) M ι (upd Gs (.c b j) Gn) := by
  have hb : live g b := hs.live_of hu
  obtain ⟨cs, t, h1, h2⟩ := hs.box b hb
  have hs1 := hs.relabel (k := .c b j) (V := .dead) (Gn := []) (M' := M) (X' := Gs (.c b j) ++ X) (Mle.refl _) (fun b o e => absurd rfl e) hs.stable (fun v _ => rfl) rfl (fun _ => rfl) (fun h => by cases h) (by rw [hu]; rfl)
    (fun b hb => by cases hb) (fun x hx => by cases hx) List.nodup_nil (fun x hx => ⟨(List.mem_append.1 hx).elim .inr .inl, fun h => by cases h⟩) (fun h => by cases h)
  have hun : ∀ k, isUndef (gput g (.c b j) .dead k) = isUndef (g k) := gput_undef (by rw [hu]; rfl)
  have hl : ∀ b0, live (gput g (.c b j) .dead) b0 ↔ live g b0 := fun b0 => by unfold live; rw [hun]
  have hf := fr_setCell w (ι b) j v
  have hs2 := hs1.world (w' := w.setCell ⟨ι b, j, none⟩ v) (M' := M) (L := [ι b]) (X' := Gs (.c b j) ++ X) hf (fun x hx => .inr ⟨b, (hl b).2 hb, (List.mem_singleton.1 hx).symm⟩) (fun b' hb' hm cs' t' hc' => by
      have e : b' = b := hs.inj b' b ((hl b').1 hb') hb (List.mem_singleton.1 hm)
      rw [e] at hc' ⊢
      rw [h1] at hc'; cases hc'
      refine ⟨_, _, cell_setCell h1 v, by simp, fun j' hj' => ?_⟩
      have e : j = j' := Classical.byContradiction fun e => hj' (by simp [List.getElem?_set_ne e])
      subst e; exact gput_self _ _ _) (Mle.refl _) (fun b o e => absurd rfl e) (fun b' o v' hv' => by
      by_cases e : b' = ι b
      · subst e; rw [hs.apart b o hb] at hv'; cases hv'
      · rw [cell_off e]; exact hs.stable _ _ _ hv') (fun x hx => .inl hx)
  have hlt : j < cs.size := (h2 j).1 hu
  have hs3 := hs2.relabel (k := .c b j) (V := V) (Gn := Gn) (M' := M) (X' := X') (Mle.refl _) (fun b o e => absurd rfl e) hs2.stable (fun v' hv' => by
      simp only [valAt, cell_setCell h1 v] at hv'
      have : v' = v := by simpa [List.getElem?_set, hlt] using hv'.symm
      subst this
      refine VR_of_CR (CR_heap (fun y hy => ?_) hV)
      refine hf.block y (hs.spare y (hG y hy)).1 (fun h => ?_)
      exact (hs.spare y (hG y hy)).2.2 b hb (List.mem_singleton.1 h).symm) (CR_keys hV) (fun _ => CR_cell hV) (fun h => by rw [hold] at h; cases h) (by rw [hV0, gput_self]; rfl) (fun b' hb' => (hl b').2 (hr b' hb'))
    (fun x hx => .inr (List.mem_append_right _ (hG x hx))) hn (fun x hx => ⟨.inl (List.mem_append_right _ (hX x hx).1), (hX x hx).2⟩) (fun h => by rw [hV0] at h; cases h)
  rw [gput_gput, upd_upd] at hs3
  exact hs3
theorem Sim.setCells : ∀ {vs : List V} {xs : List Value} {X : List Nat} {g : Key → V} {w : World} {Gs : Key → List Nat} {b off : Nat} {Gn : List Nat} (hs : Sim B X g n a w M ι Gs)
    (hu : ∀ j, j < vs.length → isUndef (g (.c b (off + j))) = false) (hV : LsR (CR ⟨M, fun k => w.heap[k]?, ι, fun _ => none⟩) vs xs Gn) (hV0 : ∀ v ∈ vs, isUndef v = false) (hold : ∀ v ∈ vs, isOld v = false)
    (hr : ∀ v ∈ vs, ∀ b ∈ v.refs, live g b) (hG : ∀ y ∈ Gn, y ∈ X) (hn : Gn.Nodup), ∃ Gs', Sim B [] (gputs g (wcells b off vs)) n a (w.setCells (ι b) off xs) M ι Gs'
  | [], [], X, g, w, Gs, b, off, Gn, hs, _, _, _, _, _, _, _ => ⟨Gs, hs.less (fun x hx => by cases hx)⟩
  | V :: vs, v :: xs, X, g, w, Gs, b, off, Gn, hs, hu, ⟨G1, G2, e, h1, h2⟩, hV0, hold, hr, hG, hn => by
    rw [e] at hn hG
    obtain ⟨n1, n2, n3⟩ := List.nodup_append.1 hn
    have hu0 : isUndef (g (.c b off)) = false := hu 0 (by simp)
    have hs1 := hs.setCell (X' := G2) hu0 h1 (hV0 V (by simp)) (hold V (by simp)) (hr V (by simp)) (fun y hy => hG y (List.mem_append_left _ hy)) n1 (fun y hy => ⟨hG y (List.mem_append_right _ hy), fun h => n3 y h y hy rfl⟩)
    have hun : ∀ k, isUndef (gput g (.c b off) V k) = isUndef (g k) := gput_undef (by rw [hu0]; exact hV0 V (by simp))
    have hb := hs.live_of hu0
    refine Sim.setCells (vs := vs) (xs := xs) (X := G2) (Gn := G2) hs1 (fun j hj => ?_) ?_ (fun v hv => hV0 v (List.mem_cons_of_mem _ hv)) (fun v hv => hold v (List.mem_cons_of_mem _ hv)) (fun v hv b' hb' => ?_) (fun y hy => hy) n2
    · rw [hun, show off + 1 + j = off + (j + 1) by omega]; exact hu (j + 1) (by simpa using hj)
    · refine LsR_heap (fun y hy => ?_) h2
      have hyX := hG y (List.mem_append_right _ hy)
      refine (fr_setCell w (ι b) off _).block y (hs.spare y hyX).1 (fun h => ?_)
      exact (hs.spare y hyX).2.2 b hb (List.mem_singleton.1 h).symm
    · have := hr v (List.mem_cons_of_mem _ hv) b' hb'
      unfold live at this ⊢; rw [hun]; exact this
  | [], _ :: _, _, _, _, _, _, _, _, _, _, h, _, _, _, _, _ => h.elim
  | _ :: _, [], _, _, _, _, _, _, _, _, _, h, _, _, _, _, _ => h.elim
theorem hasCells_inv : ∀ {m b j : Nat} {k : RM WS} {rs : List Key} {ws : WS}, Run C g (hasCells b j m k) rs ws → (∀ i, i < m → isUndef (g (.c b (j + i))) = false) ∧ ∃ rs', Run C g k rs' ws
  | 0, b, j, k, rs, ws, h => ⟨fun i hi => by omega, _, h⟩
  | m + 1, b, j, k, rs, ws, h => by
    obtain ⟨_, _, h⟩ := Run.rd_inv h
    split at h
    · exact h.fail_inv.elim
    · rename_i hu
      obtain ⟨h1, h2⟩ := hasCells_inv h
      refine ⟨fun i hi => ?_, h2⟩
      cases i with
      | zero => simpa using hu
      | succ i => rw [show j + (i + 1) = j + 1 + i by omega]; exact h1 i (by omega)
theorem storeAt_run {tab : List Row} {t : TypeId} {r : Row} {w : World} (hrow : RowOk P tab r t) {b o : Nat} {x : Value} {cs : Array Value} {tt : TypeId} (hb : w.heap[b]? = some (.cells cs tt (0, 0))) (hfit : ∀ j, j < x.cells.size → o + j < cs.size)
    (hx : x.cells.size = r.cks.length) (h1 : ∀ u ∈ x.cells.toList, u.oneCell' = true) : (Instr.storeAt t (.pointer (some ⟨b, o, none⟩)) x).run P w = .ok () (w.setCells b o x.cells.toList) := by
  obtain ⟨i, hi, hsz, _⟩ := hrow.info
  have ht : ∀ j, j < x.cells.toList.length → (w.cell? ⟨b, o + j, none⟩).isSome = true ∧ w.frozen? ⟨b, o + j, none⟩ = false := by
    intro j hj
    have hj' : o + j < cs.size := hfit j (by simpa using hj)
    constructor
    · simp [World.cell?, hb, hj']
    · simp [World.frozen?, hb]
  have := run_storeCells_cells (P := P) b o x.cells.toList 0 w (fun j hj => by simpa using (ht j (by simpa using hj)).1) (fun j hj => by simpa using (ht j (by simpa using hj)).2) h1
  simp only [Nat.add_zero] at this
  unfold Instr.storeAt Instr.sureAddr
  rw [Sem.run_bind]
  simp only [Sem.run_pure, Result.andThen_ok]
  simp [storeVar, sizeOf, typeInfo, hi, hx, hsz, this]
theorem shape_len {tab : List Row} {t : TypeId} {r : Row} (hrow : RowOk P tab r t) {u : V} {cs : List V} (hs : r.shape u = some cs) : cs.length = r.cks.length := by
  have hf : ∀ (ks : List CK) (l : List V), (fits ks l).length = l.length := by
    intro ks
    induction ks with
    | nil => intro l; unfold fits; rfl
    | cons k ks ih => intro l; cases l with
      | nil => unfold fits; rfl
      | cons v l => show (fit k v :: fits ks l).length = _; simp [ih]
  obtain ⟨i, hi, hsz, _, hz⟩ := hrow.info
  unfold Row.shape at hs
  rcases hz with ⟨ha, _⟩ | ⟨ha, c, hc, _⟩
  · rw [ha] at hs
    cases u
    case agg l =>
      dsimp only at hs
      split at hs
      · cases hs; rw [hf]; exact Nat.eq_of_beq_eq_true ‹_›
      · cases hs
    all_goals cases hs
  · rw [ha] at hs
    cases u
    case agg l => cases hs
    case tup l => cases hs
    all_goals (have hs := Option.some.inj hs; rw [← hs, hf, hc]; rfl)
theorem ones_LsR {E : En} : ∀ {vs : List V} {xs : List Value} {G : List Nat}, LsR (CR E) vs xs G → sures vs = true → ∀ u ∈ xs, u.oneCell' = true
  | [], [], _, _, _, u, hu => by cases hu
  | v :: vs, x :: xs, _, ⟨_, _, _, h1, h2⟩, hs, u, hu => by
    simp only [sures, Bool.and_eq_true] at hs
    rcases List.mem_cons.1 hu with e | e
    · rw [e]; exact (CR_one hs.1 h1).2
    · exact ones_LsR h2 hs.2 u e
  | [], _ :: _, _, h, _, _, _ => h.elim
  | _ :: _, [], _, h, _, _, _ => h.elim
variable {cfg : Cfg} {fu : FuncId} {o : Oper} {rs : List Key} {ws : WS} (hT : tabOk P cfg.tab cfg.tab = true) (hs : Sim B [] g n a w M ι Gs) (Q : Exit → Act → World → Prop)
include hs hT
theorem store_ref {t : TypeId} {x y : Operand} (ho : o.op = .store t x y) (hd : o.dst = none) {b off : Nat} {r : Row} (hrow : rowAt cfg.tab t = some r) (hb : live g b) (hx : a.eval x = .pointer (some ⟨ι b, off, none⟩))
    (hr : Run C g ((opnd y).bind fun v => (moveAt (keyOf y) v).bind fun u => RM.opt (r.shape u.1) fun cs => RM.guard (sures cs) (over u.2 (hasCells b off r.cks.length (.ret (u.2 ++ wcells b off (cs.map goL)))))) rs ws) : o.wp P a w (Good B (gputs g ws) n) Q := by
  have hR := rowOk_of hT hrow
  replace hr := hr.bind_inv; obtain ⟨_, _, v, _, h2, hr⟩ := hr
  replace hr := hr.bind_inv; obtain ⟨_, _, u, _, h3, hr⟩ := hr
  replace hr := hr.opt_inv; obtain ⟨cs, hsh, hr⟩ := hr
  obtain ⟨hsure, hr⟩ := hr.guard_inv
  replace hr := hr.over_inv
  obtain ⟨hcells, _, hr⟩ := hasCells_inv hr
  obtain ⟨e, _⟩ := hr.ret_inv; subst e
  obtain ⟨u, ws1⟩ := u
  obtain ⟨G1, hV1, hn1, hrf1, hk1⟩ := opnd_sound hs h2
  obtain ⟨Gn, M', Gs', k1, k2, k3, k4, k5, k6, k7, k8, k9, k10, k11⟩ := moveAt_sound hs hk1 hV1 hn1 hrf1 h3
  have hls := shape_LsR (k2 (fun _ => none)) k7 hsh hsure
  have hlen := shape_len hR hsh
  have hb' : live (gputs g ws1) b := by unfold live at hb ⊢; rw [k11]; exact hb
  obtain ⟨cs0, t0, hc0, hbox⟩ := k1.box b hb'
  have hsz : (a.eval y).cells.size = r.cks.length := by rw [← hlen, LsR_len hls]; simp
  have hrun := storeAt_run (P := P) (w := w) hR (o := off) (x := a.eval y) hc0 (fun j hj => (hbox (off + j)).1 (hcells j (by omega))) hsz (ones_LsR hls hsure)
  have hrun2 : (execOp a.eval o).run P w = .ok .skip (w.setCells (ι b) off (a.eval y).cells.toList) := by
    simp only [execOp, ho, hx]
    rw [Sem.run_bind, hrun]; simp
  unfold Oper.wp
  rw [hrun2, Oper.upon_skip, hd, gputs_append]
  have hgo : LsR (CR ⟨M', fun k => w.heap[k]?, ι, fun _ => none⟩) (cs.map goL) (a.eval y).cells.toList Gn := LsR_map goL (fun v x G h => CR_goes h) hls
  obtain ⟨Gs2, hs2⟩ := k1.setCells (b := b) (off := off) (vs := cs.map goL) (fun j hj => hcells j (by rw [List.length_map, hlen] at hj; exact hj)) hgo
    (fun v hv => by obtain ⟨c, hc, rfl⟩ := List.mem_map.1 hv; exact (go_facts (sures_mem hsure c hc)).1)
    (fun v hv => by obtain ⟨c, hc, rfl⟩ := List.mem_map.1 hv; exact (go_facts (sures_mem hsure c hc)).2)
    (fun v hv b' hb' => by
      obtain ⟨c, hc, rfl⟩ := List.mem_map.1 hv
      obtain ⟨_, _, hcr⟩ := LsR_mem hls c hc
      rw [CR_refs (CR_goes hcr), refs2_go] at hb'
      have := k10 b' (shape_refs hsh c hc b' hb')
      unfold live at this ⊢; rw [k11]; exact this)
    (fun y hy => List.mem_append_left _ hy) k5
  exact ⟨M', ι, Gs2, hs2⟩
end
end Go.Proofs.Ytkfphlmbdppbfaa.Vm
