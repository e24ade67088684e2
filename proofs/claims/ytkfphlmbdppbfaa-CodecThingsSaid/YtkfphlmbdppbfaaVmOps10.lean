/- The machine's operations are the model's: cuts and conversions. No condition. -/
import Derived.Test.YtkfphlmbdppbfaaVmOps9
import Derived.Lib.ConvBytes
import Derived.Laws.BytesArg
namespace Go.Proofs.Ytkfphlmbdppbfaa.Vm
open Go Go.RowKit
set_option linter.unusedVariables false
set_option linter.unusedSimpArgs false
theorem lstR_of {M : Mem} {h : Nat → Option Obj} {ι : Nat → Nat} {old : Key → Option Value} {ty : Ty} {xs : List ty.den} {ow : Own} {v : Value} (k : VR ⟨M, h, ι, old⟩ (.list ty xs ow) v []) : lstR M ty xs v := by
  cases ow with
  | no => exact k.1
  | nil => obtain ⟨⟨h1, h2⟩, _⟩ := k; subst h1; rw [h2]; exact lstR_nil _ _ _
  | own s f =>
    rcases (show ownR M h ty xs s v [] from k) with ⟨_, h2, h3⟩ | ⟨_, _, h3, _⟩ | ⟨_, _, _, _, _, _, h1, _⟩
    · subst h2; rw [h3]; exact lstR_nil _ _ _
    · exact h3
    · cases h1
theorem lstR_cut {M : Mem} {t : Ty} {xs : List t.den} {a : Option Addr} {c l h m : Nat} (k : lstR M t xs (.slice a xs.length c)) (hl : l ≤ h) (hh : h ≤ xs.length) (hm : h ≤ m) :
    lstR M t ((xs.take h).drop l) (.slice (if m = l then a else a.map (·.add (l * t.size))) (h - l) (m - l)) := by
  have hlen : ((xs.take h).drop l).length = h - l := by rw [List.length_drop, List.length_take]; omega
  obtain ⟨a', c', e, _, hx⟩ := k
  cases e
  refine ⟨_, _, by rw [hlen], by rw [hlen]; omega, fun i x hi => ?_⟩
  have hil := (List.getElem?_eq_some_iff.1 hi).1
  rw [hlen] at hil
  rw [List.getElem?_drop, List.getElem?_take, if_pos (by omega)] at hi
  obtain ⟨b, o, us, ha, hd, hu⟩ := hx (l + i) x hi
  refine ⟨b, o + l * t.size, us, ?_, hd, fun j u hj => ?_⟩
  · rw [if_neg (by omega), ha]
    simp [addr_add]
  · rw [show o + l * t.size + i * t.size + j = o + (l + i) * t.size + j by rw [Nat.add_mul]; omega]
    exact hu j u hj
section
variable {P : Program} {B : Bs} {X X' : List Nat} {g : Key → V} {n : Nat} {a : Act} {w : World} {M : Mem} {ι : Nat → Nat} {Gs : Key → List Nat} {C : CallR}
theorem lowOf_sound (hs : Sim B X g n a w M ι Gs) {x : Option Operand} {l : Option Int} {rs : List Key} (hr : Run C g (lowOf x) rs l) : (x = none ∧ l = none) ∨ ∃ q k i, x = some q ∧ l = some i ∧ a.eval q = .int k i := by
  cases x with
  | none => obtain ⟨e, _⟩ := hr.ret_inv; exact .inl ⟨rfl, e⟩
  | some q =>
    replace hr := hr.bind_inv; obtain ⟨_, _, u, _, h1, hr⟩ := hr
    obtain ⟨G1, hV1, hx1⟩ := opnd_sound hs h1
    split at hr
    · rename_i k i
      obtain ⟨e, _⟩ := hr.ret_inv
      exact .inr ⟨q, k, i, rfl, e, hV1.1⟩
    · exact hr.fail_inv.elim
theorem bound_run (k : IntKind) (i : Int) (y : Nat) (code : BoundsCode) (h0 : 0 ≤ i) (h1 : i ≤ (y : Int)) : (Instr.sliceBound (.int k i) y code).run P w = .ok i.toNat w := by
  simp [Instr.sliceBound, asIntOf, h0, h1]
/-- the bounds of a cut of two indices -/
theorem bounds2_run (hs : Sim B X g n a w M ι Gs) {isS : Bool} {lo hi : Option Operand} {l h : Option Int} {r1 r2 : List Key} (h1 : Run C g (lowOf lo) r1 l) (h2 : Run C g (lowOf hi) r2 h) {len cap : Nat} (hlc : len ≤ cap)
    (g1 : 0 ≤ l.getD 0) (g2 : l.getD 0 ≤ h.getD len) (g3 : h.getD len ≤ (len : Int)) :
    (Instr.sliceBounds isS len cap (lo.map a.eval) (hi.map a.eval) none).run P w = .ok ((l.getD 0).toNat, (h.getD len).toNat, cap) w := by
  rcases lowOf_sound hs h2 with ⟨e1, e2⟩ | ⟨q, k, i, e1, e2, e3⟩ <;> rcases lowOf_sound hs h1 with ⟨e4, e5⟩ | ⟨q', k', i', e4, e5, e6⟩ <;> subst e1 e2 e4 e5 <;> simp at g1 g2 g3
  · simp [Instr.sliceBounds]
  · have b1 : ∀ code, (Instr.sliceBound (.int k' i') len code).run P w = .ok i'.toNat w := fun code => bound_run k' i' len code g1 (by omega)
    simp [Instr.sliceBounds, e6, b1]
  · have b2 : ∀ code, (Instr.sliceBound (.int k i) cap code).run P w = .ok i.toNat w := fun code => bound_run k i cap code (by omega) (by omega)
    simp [Instr.sliceBounds, e3, b2]
  · have b1 : ∀ code, (Instr.sliceBound (.int k' i') i.toNat code).run P w = .ok i'.toNat w := fun code => bound_run k' i' _ code g1 (by omega)
    have b2 : ∀ code, (Instr.sliceBound (.int k i) cap code).run P w = .ok i.toNat w := fun code => bound_run k i cap code (by omega) (by omega)
    simp [Instr.sliceBounds, e3, e6, b1, b2]
variable {cfg : Cfg} {fu : FuncId} {o : Oper} {rs : List Key} {ws : WS} (hT : tabOk P cfg.tab cfg.tab = true) (hs : Sim B [] g n a w M ι Gs) (hd : inRange n o.dst = true) (hr : Run C g (evOp cfg fu o) rs ws) (Q : Exit → Act → World → Prop)
include hs hd hr
include hT in
theorem slice_sound {t : TypeId} {x : Operand} {lo hi mx : Option Operand} (ho : o.op = .slice t x lo hi mx) : o.wp P a w (Good B (gputs g ws) n) Q := by
  simp only [evOp, ho] at hr
  replace hr := hr.opt_inv; obtain ⟨r, hrow, hr⟩ := hr
  replace hr := hr.bind_inv; obtain ⟨_, _, u, _, h1, hr⟩ := hr
  replace hr := hr.over_inv
  obtain ⟨u, ws1⟩ := u
  obtain ⟨M', Gs', hs1, hm1, hkept, hun⟩ := plain_kept hs h1
  replace hr := hr.bind_inv; obtain ⟨_, _, l, _, h2, hr⟩ := hr
  replace hr := hr.bind_inv; obtain ⟨_, _, h, _, h3, hr⟩ := hr
  replace hr := hr.bind_inv; obtain ⟨_, _, m, _, h4, hr⟩ := hr
  have hmx := lowOf_sound hs1 h4
  cases u
  case str s =>
    cases m
    case some m => exact hr.fail_inv.elim
    case none =>
      obtain ⟨hg, hr⟩ := hr.guard_inv
      simp only [Bool.and_eq_true, decide_eq_true_eq] at hg
      obtain ⟨⟨g0, g1⟩, g2, g3⟩ := hg
      obtain ⟨e, _⟩ := hr.ret_inv; subst e
      have hmx : mx = none := by rcases hmx with ⟨h, _⟩ | ⟨_, _, _, _, h, _⟩ <;> first | exact h | cases h
      have hx : a.eval x = .string s := (hkept.1 (fun _ => none)).1
      have hu := under_str hT hrow g0
      rw [gputs_dst]
      refine hs1.leaf hd rfl ?_ Q
      simp only [execOp, ho, hmx, hx]
      rw [Sem.run_bind]
      have hb := bounds2_run (P := P) hs1 (isS := false) h2 h3 (Nat.le_refl s.size) g1 g2 g3
      simp [Instr.sliceAt, Instr.slice, run_underlying hu, hb]
  case list ty xs ow =>
    have hl := lstR_of (hkept.1 (fun _ => none))
    obtain ⟨ad, c, hx, hc, _⟩ := id hl
    rw [hx] at hl
    cases m
    case none =>
      have hr : ∃ rs', Run C (gputs g ws1) (RM.guard (isElt cfg.tab r.sub ty && decide (0 ≤ l.getD 0) && (decide (l.getD 0 ≤ h.getD xs.length) && decide (h.getD xs.length ≤ (xs.length : Int)))) (.ret (ws1 ++ dstW o.dst (.list ty ((xs.take (h.getD xs.length).toNat).drop (l.getD 0).toNat) .no)))) rs' ws := ⟨_, hr⟩
      obtain ⟨_, hr⟩ := hr
      obtain ⟨hg, hr⟩ := hr.guard_inv
      simp only [Bool.and_eq_true, decide_eq_true_eq] at hg
      obtain ⟨⟨g0, g1⟩, g2, g3⟩ := hg
      obtain ⟨e, _⟩ := hr.ret_inv; subst e
      have hmx : mx = none := by rcases hmx with ⟨h, _⟩ | ⟨_, _, _, _, h, _⟩ <;> first | exact h | cases h
      have hsub : ∃ e, r.sub = .slice e := by
        cases hq : r.sub <;> rw [hq] at g0 <;> first | exact ⟨_, rfl⟩ | cases g0
      obtain ⟨e, hsub⟩ := hsub
      obtain ⟨hu, er, her, hck, _⟩ := elt_size hT hrow hsub g0
      have hsz : (sizeOf e).run P w = .ok ty.size w := by rw [sizeOf_run (rowOk_of hT her), hck, cksTy_len]
      have hb := bounds2_run (P := P) hs1 (isS := true) h2 h3 hc g1 g2 g3
      have hcut := lstR_cut hl (l := (l.getD 0).toNat) (h := (h.getD xs.length).toNat) (m := c) (by omega) (by omega) (by omega)
      rw [gputs_dst]
      refine hs1.val0 (.list ty ((xs.take (h.getD xs.length).toNat).drop (l.getD 0).toNat) .no) _ hd ⟨hcut, rfl⟩ ?_ rfl (fun b hb => by cases hb) rfl Q
      simp only [execOp, ho, hmx, hx]
      rw [Sem.run_bind]
      simp [Instr.sliceAt, Instr.slice, run_underlying hu, hb, hsz]
    case some m =>
      replace hr := hr.opt_inv; obtain ⟨h', eh, hr⟩ := hr
      have hr : ∃ rs', Run C (gputs g ws1) (RM.guard (isElt cfg.tab r.sub ty && decide (0 ≤ l.getD 0) && (decide (l.getD 0 ≤ h') && (decide (h' ≤ (xs.length : Int)) && decide (m = h')))) (.ret (ws1 ++ dstW o.dst (.list ty ((xs.take h'.toNat).drop (l.getD 0).toNat) (.own true true))))) rs' ws := ⟨_, hr⟩
      obtain ⟨_, hr⟩ := hr
      obtain ⟨hg, hr⟩ := hr.guard_inv
      simp only [Bool.and_eq_true, decide_eq_true_eq] at hg
      obtain ⟨⟨g0, g1⟩, g2, g3, g4⟩ := hg
      obtain ⟨e, _⟩ := hr.ret_inv; subst e
      have hsub : ∃ e, r.sub = .slice e := by
        cases hq : r.sub <;> rw [hq] at g0 <;> first | exact ⟨_, rfl⟩ | cases g0
      obtain ⟨e, hsub⟩ := hsub
      obtain ⟨hu, er, her, hck, _⟩ := elt_size hT hrow hsub g0
      have hsz : (sizeOf e).run P w = .ok ty.size w := by rw [sizeOf_run (rowOk_of hT her), hck, cksTy_len]
      subst g4
      obtain ⟨qm, km, em, hmq⟩ : ∃ q k, mx = some q ∧ a.eval q = .int k m := by
        rcases hmx with ⟨_, h⟩ | ⟨q, k, i, e1, e2, e3⟩
        · cases h
        · cases e2; exact ⟨q, k, e1, e3⟩
      obtain ⟨qh, kh, ehi, hhq⟩ : ∃ q k, hi = some q ∧ a.eval q = .int k m := by
        rcases lowOf_sound hs1 h3 with ⟨_, h⟩ | ⟨q, k, i, e1, e2, e3⟩
        · rw [eh] at h; cases h
        · rw [eh] at e2; cases e2; exact ⟨q, k, e1, e3⟩
      have hcut := lstR_cut hl (l := (l.getD 0).toNat) (h := m.toNat) (m := m.toNat) (by omega) (by omega) (by omega)
      have hlen : ((xs.take m.toNat).drop (l.getD 0).toNat).length = m.toNat - (l.getD 0).toNat := by rw [List.length_drop, List.length_take]; omega
      have hb : (Instr.sliceBounds true xs.length c (lo.map a.eval) (some (.int kh m)) (some (.int km m))).run P w = .ok ((l.getD 0).toNat, m.toNat, m.toNat) w := by
        have b1 : ∀ code, (Instr.sliceBound (.int km m) c code).run P w = .ok m.toNat w := fun code => bound_run km m c code (by omega) (by omega)
        have b2 : ∀ code, (Instr.sliceBound (.int kh m) m.toNat code).run P w = .ok m.toNat w := fun code => bound_run kh m _ code (by omega) (by omega)
        rcases lowOf_sound hs1 h2 with ⟨e1, e2⟩ | ⟨q, k, i, e1, e2, e3⟩ <;> subst e1 e2 <;> simp at g1 g2
        · simp [Instr.sliceBounds, b1, b2]
        · have b3 : ∀ code, (Instr.sliceBound (.int k i) m.toNat code).run P w = .ok i.toNat w := fun code => bound_run k i _ code g1 (by omega)
          simp [Instr.sliceBounds, e3, b1, b2, b3]
      rw [gputs_dst]
      refine hs1.val0 (.list ty ((xs.take m.toNat).drop (l.getD 0).toNat) (.own true true)) _ hd (.inr (.inl ⟨rfl, rfl, hcut, _, by rw [hlen]⟩)) ?_ rfl (fun b hb => by cases hb) rfl Q
      simp only [execOp, ho, hx, em, ehi, Option.map_some, hmq, hhq]
      rw [Sem.run_bind]
      simp [Instr.sliceAt, Instr.slice, run_underlying hu, hb, hsz]
  all_goals (cases m <;> exact hr.fail_inv.elim)
omit hs hd hr in
theorem isBytes_eq (hT : tabOk P cfg.tab cfg.tab = true) {t : TypeId} {r : Row} (hrow : rowAt cfg.tab t = some r) (h : isBytes cfg.tab r = true) : ∃ e, P.underlying t = some (.slice e) ∧ P.underlying e = some (.int .u8) := by
  unfold isBytes at h
  split at h
  · rename_i e hsub
    obtain ⟨hu, _⟩ := under_slice hT hrow hsub
    refine ⟨e, hu, ?_⟩
    split at h
    · rename_i er her
      rw [Bool.and_eq_true] at h
      obtain ⟨ha, hc⟩ := h
      have ha : er.agg = false := by simpa using ha
      split at hc
      · rename_i hck
        obtain ⟨d, h1, h2⟩ := (rowOk_of hT her).under
        cases d <;> simp [descOk, hck, ha] at h2
        rw [h1, h2.1]
      · cases hc
    · cases h
  · cases h
omit hs hd hr in
theorem rowsR_u8 {M : Mem} : ∀ {xs : List Int} {us : List Value}, rowsR M (.int .u8) xs us → us = xs.map (Value.int .u8)
  | [], _, h => h
  | x :: xs, _, ⟨c1, c2, e, h1, h2⟩ => by
    have h3 : c1 = [.int .u8 x] := h1
    subst e h3; rw [rowsR_u8 h2]; rfl
omit hs hd hr in
theorem rowsR_u8' {M : Mem} : ∀ (xs : List Int), rowsR M (.int .u8) xs (xs.map (Value.int .u8))
  | [] => rfl
  | x :: xs => ⟨[.int .u8 x], _, rfl, rfl, rowsR_u8' xs⟩
omit hs hd hr in
theorem str_run (xs : List Int) {us : List Value} {x : Value} {src dst e : TypeId} (huse : us = xs.map (Value.int .u8)) (hrd : Reads w 1 x xs.length us) (hus : P.underlying src = some (.slice e)) (hue : P.underlying e = some (.int .u8)) (hud : P.underlying dst = some .string) :
    (convert src dst x).run P w = .ok (.string (strOf xs)) w := by
  obtain ⟨hul, ad, c, hx, _, hor⟩ := hrd
  have hstr : ByteArray.mk (ByteArray.empty.data ++ (xs.map fun n => UInt8.ofNat n.toNat).toArray) = strOf xs := by
    simp [strOf]
  rw [hx, run_convert_bytes_string w src dst e ad xs.length c hus hue hud]
  have hload : ∀ b, ad = some b → (loadCells b (xs.length)).run P w = .ok (xs.map (Value.int .u8)).toArray w := by
    intro b hb
    rcases hor with h0 | ⟨b', o', h0, h9⟩
    · have : xs = [] := by
        rw [h0] at huse
        exact List.map_eq_nil_iff.1 huse.symm
      subst this
      simp [loadCells, loadCellsFrom]
    · rw [h0] at hb; cases hb
      have := run_loadCells_list (P := P) (w := w) ⟨b', o', none⟩ us (fun j v hv => by rw [addr_add]; exact h9 j v hv)
      rw [huse] at this
      simpa using this
  cases ad with
  | none =>
    have : xs = [] := by
      rcases hor with h0 | ⟨b', o', h0, h9⟩
      · rw [h0] at huse; exact List.map_eq_nil_iff.1 huse.symm
      · cases h0
    subst this
    simp [Conv.bytesToString, strOf, ByteArray.empty, ByteArray.emptyWithCapacity]
    rfl
  | some b => rw [run_bytesToString w b xs.length c xs (hload b rfl), foldl_push_bytes, hstr]
include hT in
theorem convert_sound {src dst : TypeId} {x : Operand} (ho : o.op = .convert src dst x) : o.wp P a w (Good B (gputs g ws) n) Q := by
  simp only [evOp, ho] at hr
  replace hr := hr.bind_inv; obtain ⟨_, _, u, _, h1, hr⟩ := hr
  have hl := look_sound hs h1
  replace hr := hr.opt_inv; obtain ⟨r, hrow, hr⟩ := hr
  replace hr := hr.opt_inv; obtain ⟨q, hq, hr⟩ := hr
  obtain ⟨ds, hus, _⟩ := (rowOk_of hT hq).under
  split at hr
  · rename_i k' m k hck
    obtain ⟨hg, hr⟩ := hr.guard_inv
    obtain ⟨e, _⟩ := hr.ret_inv; subst e
    have ha : r.agg = false := by simpa using hg
    have hud : P.underlying dst = some (.int k) := by
      obtain ⟨d, h1, h2⟩ := (rowOk_of hT hrow).under
      cases d <;> simp [descOk, hck, ha] at h2
      rw [h1, h2.1]
    have hx : a.eval x = .int k' m := hl.int
    exact hs.leaf hd (x := .int k (k.wrap m)) rfl (by simp [execOp, ho, hx, convert, run_underlying hus, run_underlying hud, Conv.intToInt]) Q
  · rename_i s hck
    obtain ⟨hg, hr⟩ := hr.guard_inv
    obtain ⟨e, _⟩ := hr.ret_inv; subst e
    have hud := under_str hT hrow hg
    have hx : a.eval x = .string s := hl.str
    exact hs.leaf hd (x := .string s) rfl (by simp [execOp, ho, hx, convert, run_underlying hus, run_underlying hud]) Q
  · rename_i s hck
    obtain ⟨hg, hr⟩ := hr.guard_inv
    obtain ⟨e, _⟩ := hr.ret_inv; subst e
    rw [Bool.and_eq_true] at hg
    have hus := under_str hT hq hg.1
    obtain ⟨e, hud, hue⟩ := isBytes_eq hT hrow hg.2
    have hx : a.eval x = .string s := hl.str
    have hf : Fr [] w (w.drew.alloc (.cells (bytesRow s (grownCap w s.size 0 e)) e ((bytesRow s (grownCap w s.size 0 e)).size, (bytesRow s (grownCap w s.size 0 e)).size + 1))) := ((Fr.refl [] w).drew).alloc _
    have hnew : ∀ j (u : Value), ((bytesOf s).map (Value.int .u8))[j]? = some u → (w.drew.alloc (.cells (bytesRow s (grownCap w s.size 0 e)) e ((bytesRow s (grownCap w s.size 0 e)).size, (bytesRow s (grownCap w s.size 0 e)).size + 1))).cell? ⟨w.heap.size, j, none⟩ = some u := by
      intro j u hj
      have h1 : (w.drew.alloc (.cells (bytesRow s (grownCap w s.size 0 e)) e ((bytesRow s (grownCap w s.size 0 e)).size, (bytesRow s (grownCap w s.size 0 e)).size + 1))).heap[w.heap.size]? = some (.cells (bytesRow s (grownCap w s.size 0 e)) e ((bytesRow s (grownCap w s.size 0 e)).size, (bytesRow s (grownCap w s.size 0 e)).size + 1)) := by
        show (w.heap.push _)[w.heap.size]? = _
        simp
      unfold World.cell?
      rw [h1]
      simp only [bytesOf, List.map_map] at hj
      have hlt : j < s.data.size := by
        have := (List.getElem?_eq_some_iff.1 hj).1
        simpa using this
      have hlt2 : j < s.size := hlt
      simp only [bytesRow, Array.getElem?_append, Array.size_map]
      rw [if_pos hlt]
      simpa using hj
    let M' : Mem := fun b o => if b = w.heap.size then ((bytesOf s).map (Value.int .u8))[o]? else M b o
    have hnone : ∀ o, M w.heap.size o = none := hs.none_new (Nat.le_refl _)
    have hle : Mle M M' := fun b o v hv => by
      show (if _ then _ else _) = _
      split
      · rename_i e; rw [e, hnone] at hv; cases hv
      · exact hv
    have hs1 := hs.world (w' := w.drew.alloc (.cells (bytesRow s (grownCap w s.size 0 e)) e ((bytesRow s (grownCap w s.size 0 e)).size, (bytesRow s (grownCap w s.size 0 e)).size + 1))) (M' := M') (L := []) (X' := []) hf (fun x hx => by cases hx) (fun b _ h => by cases h) hle
      (fun b o hb => .inr (by
        have : b = w.heap.size := Classical.byContradiction fun hne => hb (if_neg hne)
        omega))
      (fun b o v hv => by
        change (if _ then _ else _) = _ at hv
        split at hv
        · rename_i e; rw [e]; exact hnew o v hv
        · exact hf.cell (hs.stable b o v hv) (fun h => by cases h)) (fun x hx => by cases hx)
    have hlen : (bytesOf s).length = s.size := by simp [bytesOf]
    have hlst : lstR M' (.int .u8) (bytesOf s) (.slice (some ⟨w.heap.size, 0, none⟩) s.size (grownCap w s.size 0 e)) := by
      have := lstR_of_rows (M := M') (t := .int .u8) (b := w.heap.size) (o := 0) (c := grownCap w s.size 0 e) (rowsR_u8' (bytesOf s)) (Nat.le_trans (Nat.le_of_eq hlen) (grownCap_ge w s.size 0 e)) (fun j u hj => by
        show (if _ then _ else _) = _
        rw [if_pos rfl, Nat.zero_add]; exact hj)
      exact (congrArg (fun n => lstR M' (.int .u8) (bytesOf s) (.slice (some ⟨w.heap.size, 0, none⟩) n (grownCap w s.size 0 e))) hlen).mp this
    have hrun : (execOp a.eval o).run P w = .ok (.value (.slice (some ⟨w.heap.size, 0, none⟩) s.size (grownCap w s.size 0 e))) (w.drew.alloc (.cells (bytesRow s (grownCap w s.size 0 e)) e ((bytesRow s (grownCap w s.size 0 e)).size, (bytesRow s (grownCap w s.size 0 e)).size + 1))) := by
      simp only [execOp, ho, hx]
      rw [Sem.run_bind, run_bytes_of_string w src dst e s hus hud hue]; simp
    unfold Oper.wp
    rw [hrun, Oper.upon_value]
    cases hdd : o.dst with
    | none => exact ⟨M', ι, Gs, hs1⟩
    | some d =>
      rw [hdd] at hd
      exact ⟨M', ι, _, hs1.setSlot (V := .list (.int .u8) (bytesOf s) .no) (X' := []) (Gn := []) (inRange_lt hd) ⟨hlst, rfl⟩ rfl (fun b hb => by cases hb) (fun y hy => by cases hy) List.nodup_nil (fun x hx => by cases hx) (fun h => by cases h)⟩
  · rename_i xs ow hck
    obtain ⟨hg, hr⟩ := hr.guard_inv
    obtain ⟨e, _⟩ := hr.ret_inv; subst e
    rw [Bool.and_eq_true] at hg
    have hud := under_str hT hrow hg.2
    obtain ⟨e, hus, hue⟩ := isBytes_eq hT hq hg.1
    obtain ⟨us, hrows, hrd⟩ := hl.list
    refine hs.leaf hd (x := .string (strOf xs)) rfl ?_ Q
    simp only [execOp, ho]
    rw [Sem.run_bind, str_run (P := P) (w := w) xs (rowsR_u8 hrows) hrd hus hue hud]; simp
  · obtain ⟨hg, hr⟩ := hr.guard_inv
    obtain ⟨e, _⟩ := hr.ret_inv; subst e
    rw [Bool.and_eq_true] at hg
    have hud := under_str hT ‹_› hg.2
    obtain ⟨e, hus, hue⟩ := isBytes_eq hT hq hg.1
    have hx : a.eval x = .slice none 0 0 := hl.nils
    refine hs.leaf hd (x := .string ⟨#[]⟩) rfl ?_ Q
    simp only [execOp, ho, hx]
    rw [Sem.run_bind, run_convert_bytes_string w src dst e none 0 0 hus hue hud]
    simp [Conv.bytesToString, ByteArray.empty, ByteArray.emptyWithCapacity]
    rfl
  · exact hr.fail_inv.elim
end
end Go.Proofs.Ytkfphlmbdppbfaa.Vm
