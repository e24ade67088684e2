/- The machine's operations are the model's: new lists, and parts of lists. No condition. -/
import Derived.Test.YtkfphlmbdppbfaaVmOps8
import Derived.Laws.IdiomStrings
namespace Go.Proofs.Ytkfphlmbdppbfaa.Vm
open Go Go.RowKit
set_option linter.unusedVariables false
set_option linter.unusedSimpArgs false
section
variable {P : Program} {B : Bs} {X X' : List Nat} {g : Key → V} {n : Nat} {a : Act} {w : World} {M : Mem} {ι : Nat → Nat} {Gs : Key → List Nat} {C : CallR}
/-- memory goes on by a new block, nobody's -/
theorem Sim.goes (hs : Sim B X g n a w M ι Gs) {w' : World} (hf : Fr [] w w') (hlt : w.heap.size < w'.heap.size) : Sim B (w.heap.size :: X) g n a w' M ι Gs := by
  refine hs.world (L := []) hf (fun x hx => by cases hx) (fun b _ h => by cases h) (Mle.refl _) (fun b o e => absurd rfl e) (fun b o v hv => ?_) (fun x hx => ?_)
  · exact hf.cell (hs.stable b o v hv) (fun h => by cases h)
  · rcases List.mem_cons.1 hx with e | e
    · subst e; exact .inr ⟨Nat.le_refl _, hlt⟩
    · exact .inl e
theorem ownR_new {h : Nat → Option Obj} {ty : Ty} {xs : List ty.den} {b cap : Nat} {cs us : List Value} {e : TypeId} (hc : h b = some (.cells cs.toArray e (0, 0))) (hr : rowsR M ty xs us) (ht : cs.take us.length = us) (hcap : xs.length ≤ cap) (hmax : cap ≤ maxLen)
    (hfit : cap * ty.size ≤ cs.length) (hM : ∀ o, M b o = none) : ownR M h ty xs false (.slice (some ⟨b, 0, none⟩) xs.length cap) [b] :=
  .inr (.inr ⟨b, 0, cap, cs, e, us, rfl, rfl, hc, hcap, hmax, by omega, hr, by rw [List.drop_zero]; exact ht, fun h => by (cases h), fun o _ => hM o⟩)
theorem Sim.newOwn (hs : Sim B X g n a w M ι Gs) {o : Oper} {w' : World} {ty : Ty} {xs : List ty.den} {cap : Nat} {cs us : List Value} {e : TypeId} (hd : inRange n o.dst = true) (hf : Fr [] w w') (hc : w'.heap[w.heap.size]? = some (.cells cs.toArray e (0, 0)))
    (hr : rowsR M ty xs us) (ht : cs.take us.length = us) (hcap : xs.length ≤ cap) (hmax : cap ≤ maxLen) (hfit : cap * ty.size ≤ cs.length) (hrun : (execOp a.eval o).run P w = .ok (.value (.slice (some ⟨w.heap.size, 0, none⟩) xs.length cap)) w') (Q : Exit → Act → World → Prop) :
    o.wp P a w (Good B (gputs g (dstW o.dst (.list ty xs (.own false true)))) n) Q := by
  have hlt : w.heap.size < w'.heap.size := by
    rcases Nat.lt_or_ge w.heap.size w'.heap.size with h | h
    · exact h
    · rw [Array.getElem?_eq_none h] at hc; cases hc
  have hs1 := hs.goes hf hlt
  have hV : VR (enOf g a (fun k => w'.heap[k]?) M ι) (.list ty xs (.own false true)) (.slice (some ⟨w.heap.size, 0, none⟩) xs.length cap) [w.heap.size] :=
    ownR_new hc hr ht hcap hmax hfit (hs.none_new (Nat.le_refl _))
  unfold Oper.wp
  rw [hrun, Oper.upon_value]
  cases hdd : o.dst with
  | none => exact ⟨M, ι, Gs, hs1.less (fun x hx => by cases hx)⟩
  | some d =>
    rw [hdd] at hd
    exact ⟨M, ι, _, hs1.setSlot (X' := []) (inRange_lt hd) hV rfl (fun b hb => by cases hb) (fun y hy => by rw [List.mem_singleton.1 hy]; simp) (by simp) (fun x hx => by cases hx) (fun h => by cases h)⟩
theorem elems_sound {tab : List Row} {er : Row} {e : TypeId} (hR : RowOk P tab er e) (hck : er.cks = cksTy er.ty) : ∀ (l : List (Nat × Operand)) {i : Nat} {k : List er.ty.den → WS → RM WS} {g : Key → V} {M : Mem} {Gs : Key → List Nat} {rs : List Key} {ws : WS}
    (hs : Sim B [] g n a w M ι Gs) (hr : Run C g (elems er i l k) rs ws),
    ∃ (ys : List er.ty.den) (ws1 : WS) (M' : Mem) (Gs' : Key → List Nat) (rs' : List Key) (cells : List Value), Sim B [] (gputs g ws1) n a w M' ι Gs' ∧ Mle M M' ∧ Run C (gputs g ws1) (k ys ws1) rs' ws ∧ rowsR M' er.ty ys cells ∧ ys.length = l.length ∧
      ∀ pre suf : List Value, pre.length = i * er.cks.length → suf.length = l.length * er.cks.length → Instr.fill (fun j => some (j * er.cks.length, er.cks.length)) (pre ++ suf).toArray (l.map fun p => (p.1, a.eval p.2)) = some (pre ++ cells).toArray
  | [], i, k, g, M, Gs, rs, ws, hs, hr => ⟨[], [], M, Gs, rs, [], hs, Mle.refl _, hr, rfl, rfl, fun pre suf _ h => by
      have : suf = [] := List.eq_nil_of_length_eq_zero (by simpa using h)
      subst this; rfl⟩
  | (j, x) :: l, i, k, g, M, Gs, rs, ws, hs, hr => by
    unfold elems at hr
    split at hr
    case isFalse => exact hr.fail_inv.elim
    rename_i hj
    have hj := Nat.eq_of_beq_eq_true hj
    subst hj
    replace hr := hr.bind_inv; obtain ⟨_, _, u, _, h2, hr⟩ := hr
    replace hr := hr.opt_inv; obtain ⟨ps, hsh, hr⟩ := hr
    obtain ⟨hsure, hr⟩ := hr.guard_inv
    split at hr
    case h_2 => exact hr.fail_inv.elim
    rename_i y hy
    replace hr := hr.over_inv
    obtain ⟨u, ws1⟩ := u
    obtain ⟨M1, Gs1, hs1, hm1, hkept, hun⟩ := plain_kept hs h2
    have hps := shape_LsR (hkept.1 (fun _ => none)) hkept.2.1 hsh hsure
    have hlen := shape_len hR hsh
    obtain ⟨v1, v2, e1, hdat, hrest⟩ := ofCells_datR hps hy
    have e2 : v2 = [] := by cases v2 with
      | nil => rfl
      | cons _ _ => exact hrest.elim
    subst e2
    rw [List.append_nil] at e1
    obtain ⟨ys, ws2, M2, Gs2, rs', cells, hs2, hm2, hrun, hrows, hl, hfill⟩ := elems_sound hR hck l hs1 hr
    have hxl : (a.eval x).cells.toList.length = er.cks.length := by rw [← LsR_len hps, hlen]
    refine ⟨y :: ys, ws1 ++ ws2, M2, Gs2, rs', (a.eval x).cells.toList ++ cells, by rw [gputs_append]; exact hs2, hm1.trans hm2, by rw [gputs_append]; exact hrun, ⟨_, cells, rfl, by rw [e1]; exact datR_mono hm2 hdat, hrows⟩, by simp [hl], fun pre suf hp hsf => ?_⟩
    have hsl : er.cks.length ≤ suf.length := by rw [hsf, List.length_cons, Nat.succ_mul]; omega
    rw [List.map_cons]
    dsimp only
    rw [fill_cons (off := j * er.cks.length) (size := er.cks.length) rfl (by simpa using hxl) (by rw [List.length_append]; omega), setL_eq _ _ _ (by rw [List.length_append]; omega)]
    have e3 : (pre ++ suf).take (j * er.cks.length) = pre := List.take_left' hp
    have e4 : (pre ++ suf).drop (j * er.cks.length + (a.eval x).cells.toList.length) = suf.drop er.cks.length := by
      rw [hxl, ← hp, List.drop_append]
      rw [List.drop_eq_nil_of_le (by omega), List.nil_append]; congr 1; omega
    rw [e3, e4, hfill (pre ++ (a.eval x).cells.toList) (suf.drop er.cks.length) (by rw [List.length_append, hp, hxl, Nat.succ_mul]) (by rw [List.length_drop, hsf, List.length_cons, Nat.succ_mul]; omega), List.append_assoc]
theorem size_ne {tab : List Row} {er : Row} {e : TypeId} (hR : RowOk P tab er e) (h : er.cks.isEmpty = false) : er.cks.length ≠ 0 := by
  intro e; rw [List.eq_nil_of_length_eq_zero e] at h; cases h
variable {cfg : Cfg} {fu : FuncId} {o : Oper} {rs : List Key} {ws : WS} (hT : tabOk P cfg.tab cfg.tab = true) (hs : Sim B [] g n a w M ι Gs) (hd : inRange n o.dst = true) (hr : Run C g (evOp cfg fu o) rs ws) (Q : Exit → Act → World → Prop)
include hs hd hr
include hT in
theorem buildSlice_sound {t : TypeId} {m : Nat} {parts : Array (Nat × Operand)} (ho : o.op = .buildSlice t m parts) : o.wp P a w (Good B (gputs g ws) n) Q := by
  simp only [evOp, ho] at hr
  replace hr := hr.opt_inv; obtain ⟨r, hrow, hr⟩ := hr
  split at hr
  case h_2 => exact hr.fail_inv.elim
  rename_i e hsub
  split at hr
  case isFalse => exact hr.fail_inv.elim
  rename_i hm
  have hm := Nat.eq_of_beq_eq_true hm
  replace hr := hr.opt_inv; obtain ⟨er, her, hr⟩ := hr
  obtain ⟨hg, hr⟩ := hr.guard_inv
  simp only [Bool.and_eq_true, decide_eq_true_eq, Bool.not_eq_true'] at hg
  obtain ⟨hne, hg1, hg2⟩ := hg
  obtain ⟨hu, er', her', hck⟩ := under_slice hT hrow hsub
  rw [her] at her'; cases her'
  have hR := rowOk_of hT her
  have hne := size_ne hR hne
  have hty : er.cks.length = er.ty.size := by rw [hck, cksTy_len]
  obtain ⟨ie, hi, hsz, _, hz⟩ := hR.info
  have hzc : ∃ z, ie.zero = some z ∧ z.cells.size = er.cks.length := by
    rcases hz with ⟨_, hz⟩ | ⟨_, c, hc, hz⟩
    · exact ⟨_, hz, by simp [Value.cells]⟩
    · refine ⟨_, hz, ?_⟩
      rw [hc]; cases c <;> rfl
  obtain ⟨z, hz1, hz2⟩ := hzc
  obtain ⟨ys, ws1, M', Gs', rs', cells, hs1, hm1, hrun, hrows, hl, hfill⟩ := elems_sound hR hck parts.toList hs hr
  obtain ⟨e', _⟩ := hrun.ret_inv; subst e'
  have hcl := rowsR_len hrows
  have hpl : parts.toList.length = m := hm.symm
  have hex : (execOp a.eval o).run P w = .ok (.value (.slice (some ⟨w.heap.size, 0, none⟩) ys.length ys.length)) (w.alloc (.cells cells.toArray e)) := by
    rw [hl, hpl]
    simp only [execOp, ho]
    rw [Sem.run_bind]
    by_cases h0 : m = 0
    · subst h0
      have : parts = #[] := by
        have := List.eq_nil_of_length_eq_zero hpl
        cases parts; simp at this; rw [this]
      subst this
      have hc0 : cells = [] := List.eq_nil_of_length_eq_zero (by rw [hcl, hl]; simp)
      subst hc0
      simp [Instr.buildSlice, run_underlying hu, sizeOf, typeInfo, hi, Instr.fill, newRow]
      congr 2
      apply Array.ext
      · simp
      · intro i h1 h2; simp at h2
    · rw [run_buildSlice w t e m _ cells.toArray ie z hu hi hz1 (by rw [hsz]; omega) (by rw [hsz]; exact Nat.mul_ne_zero h0 hne) (by
        have := hfill [] ((Array.range (m * ie.size)).map (z.cells[· % z.cells.size]!)).toList (by simp) (by simp [hsz, ← hpl])
        rw [List.nil_append, List.nil_append, Array.toArray_toList] at this
        rw [hsz] at this ⊢
        rw [Array.toList_map]
        exact this)]
      simp
  rw [gputs_dst]
  exact hs1.newOwn (us := cells) (cs := cells) hd ((Fr.refl [] w).alloc _) (Blk.new w cells e) hrows (by rw [List.take_length]) (Nat.le_refl _) (by rw [hl, hpl]; simp only [maxLen]; omega) (by rw [hcl]; exact Nat.le_refl _) hex Q
omit hs hd hr in
theorem zero_datR (M : Mem) : ∀ t : Ty, datR M t t.zero ((cksTy t).map CK.zeroVal)
  | .int _ => rfl
  | .bool => rfl
  | .str => rfl
  | .unit => rfl
  | .list t => ⟨_, rfl, lstR_nil M t 0⟩
  | .pair a b => ⟨_, _, by show (cksTy a ++ cksTy b).map CK.zeroVal = _; rw [List.map_append], zero_datR M a, zero_datR M b⟩
omit hs hd hr in
theorem made_cells (z : Array Value) : ∀ n : Nat, (madeCells z (n * z.size)).toList = (List.replicate n z.toList).flatten
  | 0 => by simp [madeCells]
  | n + 1 => by
    have h : (madeCells z ((n + 1) * z.size)).toList = z.toList ++ (madeCells z (n * z.size)).toList := by
      apply List.ext_getElem?
      intro i
      simp only [madeCells]
      by_cases h1 : i < z.size
      · rw [List.getElem?_append_left (by simpa using h1)]
        have h2 : i < (n + 1) * z.size := by rw [Nat.succ_mul]; omega
        simp [h1, h2, Nat.mod_eq_of_lt h1]
      · rw [List.getElem?_append_right (by simpa using h1)]
        by_cases h2 : i < (n + 1) * z.size
        · have h3 : i - z.size < n * z.size := by rw [Nat.succ_mul] at h2; omega
          have h4 : (i - z.size) % z.size = i % z.size := by
            rw [← Nat.add_mod_right (i - z.size) z.size, Nat.sub_add_cancel (by omega)]
          simp [h2, h3, h4]
        · have h3 : ¬ i - z.size < n * z.size := by rw [Nat.succ_mul] at h2; omega
          rw [List.getElem?_eq_none (by simpa using h2), List.getElem?_eq_none (by simpa using h3)]
    rw [h, made_cells z n, List.replicate_succ, List.flatten_cons]
include hT in
theorem makeSlice_sound {t : TypeId} {l c : Operand} (ho : o.op = .makeSlice t l c) : o.wp P a w (Good B (gputs g ws) n) Q := by
  simp only [evOp, ho] at hr
  replace hr := hr.opt_inv; obtain ⟨r, hrow, hr⟩ := hr
  split at hr
  case h_2 => exact hr.fail_inv.elim
  rename_i e hsub
  replace hr := hr.opt_inv; obtain ⟨er, her, hr⟩ := hr
  obtain ⟨hb, hr⟩ := hr.guard_inv
  have hb : 0 < er.bytes := Nat.le_of_ble_eq_true hb
  replace hr := hr.bind_inv; obtain ⟨_, _, u, _, h1, hr⟩ := hr
  replace hr := hr.bind_inv; obtain ⟨_, _, v, _, h2, hr⟩ := hr
  obtain ⟨G1, hV1, hx1⟩ := opnd_sound hs h1
  obtain ⟨G2, hV2, hx2⟩ := opnd_sound hs h2
  split at hr
  case h_2 => exact hr.fail_inv.elim
  rename_i i j
  obtain ⟨hg, hr⟩ := hr.guard_inv
  simp only [Bool.and_eq_true, decide_eq_true_eq] at hg
  obtain ⟨g1, g2, g3⟩ := hg
  obtain ⟨e', _⟩ := hr.ret_inv; subst e'
  obtain ⟨hu, er', her', hck⟩ := under_slice hT hrow hsub
  rw [her] at her'; cases her'
  have hR := rowOk_of hT her
  obtain ⟨ie, hi, hsz, hby, hz⟩ := hR.info
  have hx : a.eval l = .int .i64 i := hV1.1
  have hy : a.eval c = .int .i64 j := hV2.1
  have hzc : ∃ z, ie.zero = some z ∧ z.cells.toList = er.cks.map CK.zeroVal := by
    rcases hz with ⟨_, hz⟩ | ⟨_, c, hc, hz⟩
    · exact ⟨_, hz, by simp [Value.cells]⟩
    · refine ⟨_, hz, ?_⟩
      rw [hc]; cases c <;> rfl
  obtain ⟨z, hz1, hz2⟩ := hzc
  have hzl : z.cells.size = er.cks.length := by rw [← Array.length_toList, hz2, List.length_map]
  have hty : er.cks.length = er.ty.size := by rw [hck, cksTy_len]
  have hj : j ≤ 140737488355328 := by
    have : j * 1 ≤ j * (er.bytes : Int) := Int.mul_le_mul_of_nonneg_left (by omega) (by omega)
    omega
  have hrun := run_make (P := P) w t e ie z hu hi hz1 .i64 .i64 i j g1 g2 (by rw [hby, Int.mul_comm]; omega) (by omega)
  have hmc : (madeCells z.cells (j.toNat * ie.size)) = ((List.replicate j.toNat z.cells.toList).flatten).toArray := by
    apply Array.ext'
    rw [hsz, ← hzl, made_cells]
  rw [hmc] at hrun
  have hle : i.toNat ≤ j.toNat := by omega
  have hzd : datR M er.ty er.ty.zero z.cells.toList := by rw [hz2, hck]; exact zero_datR M er.ty
  have hrl := rowsR_zero hzd i.toNat
  have htk : ((List.replicate j.toNat z.cells.toList).flatten).take (List.replicate i.toNat z.cells.toList).flatten.length = (List.replicate i.toNat z.cells.toList).flatten := by
    have : List.replicate j.toNat z.cells.toList = List.replicate i.toNat z.cells.toList ++ List.replicate (j.toNat - i.toNat) z.cells.toList := by
      rw [List.replicate_append_replicate]; congr 1; omega
    rw [this, List.flatten_append, List.take_left]
  refine hs.newOwn (xs := List.replicate i.toNat er.ty.zero) (us := (List.replicate i.toNat z.cells.toList).flatten) (cs := (List.replicate j.toNat z.cells.toList).flatten) (cap := j.toNat) hd ((Fr.refl [] w).alloc _) (Blk.new w _ e) hrl htk (by rw [List.length_replicate]; exact hle) (by simp only [maxLen]; omega) ?_ ?_ Q
  · rw [rowsR_len (rowsR_zero hzd j.toNat), List.length_replicate]; exact Nat.le_refl _
  · rw [List.length_replicate]
    simp only [execOp, ho, hx, hy]
    rw [Sem.run_bind, hrun]; simp
end
end Go.Proofs.Ytkfphlmbdppbfaa.Vm
