/- The machine's operations are the model's: built-in functions, places of texts, conversions. No condition. -/
import Derived.Test.YtkfphlmbdppbfaaVmOps2
namespace Go.Proofs.Ytkfphlmbdppbfaa.Vm
open Go Go.RowKit
set_option linter.unusedVariables false
set_option linter.unusedSimpArgs false
theorem arr1 {α : Type} {c : Array α} {x : α} (h : c.toList = [x]) : c = #[x] := by cases c; simp at h; rw [h]
theorem LsR_drop {R : V → Value → List Nat → Prop} : ∀ {vs : List V} {xs : List Value} {G : List Nat} (k : Nat), LsR R vs xs G → ∃ G1 G2, G = G1 ++ G2 ∧ LsR R (vs.drop k) (xs.drop k) G2
  | vs, xs, G, 0, h => ⟨[], G, rfl, h⟩
  | [], [], G, k + 1, h => ⟨[], G, rfl, h⟩
  | v :: vs, x :: xs, G, k + 1, ⟨Ga, Gb, e, h1, h2⟩ => by
    obtain ⟨G1, G2, e', h3⟩ := LsR_drop k h2
    exact ⟨Ga ++ G1, G2, by rw [e, e', List.append_assoc], h3⟩
  | [], _ :: _, _, _ + 1, h => h.elim
  | _ :: _, [], _, _ + 1, h => h.elim
theorem LsR_take {R : V → Value → List Nat → Prop} : ∀ {vs : List V} {xs : List Value} {G : List Nat} (k : Nat), LsR R vs xs G → ∃ G1 G2, G = G1 ++ G2 ∧ LsR R (vs.take k) (xs.take k) G1
  | vs, xs, G, 0, h => ⟨[], G, rfl, by simp [LsR]⟩
  | [], [], G, k + 1, h => ⟨G, [], by simp, h⟩
  | v :: vs, x :: xs, G, k + 1, ⟨Ga, Gb, e, h1, h2⟩ => by
    obtain ⟨G1, G2, e', h3⟩ := LsR_take k h2
    exact ⟨Ga ++ G1, G2, by rw [e, e', List.append_assoc], Ga, G1, rfl, h1, h3⟩
  | [], _ :: _, _, _ + 1, h => h.elim
  | _ :: _, [], _, _ + 1, h => h.elim
theorem part_sound {P : Program} {tab : List Row} {t : TypeId} {r : Row} {w : World} (hrow : RowOk P tab r t) {E : En} {cs : List V} {vals : List Value} {G : List Nat} {off : Nat} {v : V} (h : LsR (CR E) cs vals G) (hn : G.Nodup)
    (hj : r.join ((cs.drop off).take r.cks.length) = some v) : ∃ y G', (part t vals.toArray off).run P w = .ok y w ∧ VR E v y G' ∧ G'.Nodup ∧ keys1 v = [] ∧ ∀ b ∈ v.refs, b ∈ V.refs (.agg cs) := by
  obtain ⟨G1, G2, e1, h1⟩ := LsR_drop off h
  obtain ⟨G3, G4, e2, h2⟩ := LsR_take r.cks.length h1
  have hn3 : G3.Nodup := by
    rw [e1, e2] at hn
    exact (List.nodup_append.1 (List.nodup_append.1 hn).2.1).1
  have hsub : ∀ u ∈ (cs.drop off).take r.cks.length, u ∈ cs := fun u hu => List.mem_of_mem_drop (List.mem_of_mem_take hu)
  unfold Row.join at hj
  cases ha : r.agg with
  | true =>
    rw [ha] at hj
    dsimp only at hj
    split at hj
    case isFalse => cases hj
    cases hj
    refine ⟨.agg (vals.toArray.extract off (off + r.cks.length)), G3, ?_, ⟨_, ?_, h2⟩, hn3, rfl, fun b hb => ?_⟩
    · unfold part
      rw [Sem.run_bind, isAgg_run hrow, ha]
      simp [sizeOf_run hrow]
    · congr 1
      apply Array.ext'
      simp [List.extract_eq_take_drop]
    · obtain ⟨u, hu, hb⟩ := List.mem_flatMap.1 hb
      exact List.mem_flatMap.2 ⟨u, hsub u hu, hb⟩
  | false =>
    rw [ha] at hj
    cases hl : (cs.drop off).take r.cks.length with
    | nil => rw [hl] at hj; cases hj
    | cons u l =>
      rw [hl] at hj h2
      cases l with
      | cons _ _ => cases hj
      | nil =>
        cases hj
        cases hx : (vals.drop off).take r.cks.length with
        | nil => rw [hx] at h2; exact h2.elim
        | cons y ys =>
          rw [hx] at h2
          obtain ⟨Ga, Gb, e3, h3, h4⟩ := h2
          cases ys with
          | cons _ _ => exact h4.elim
          | nil =>
            have hGb : Gb = [] := h4
            subst hGb
            rw [List.append_nil] at e3; subst e3
            have hy : vals[off]? = some y := by
              have : ((vals.drop off).take r.cks.length)[0]? = some y := by rw [hx]; rfl
              rw [List.getElem?_take] at this
              split at this
              · simpa using this
              · cases this
            refine ⟨y, G3, ?_, VR_of_CR h3, hn3, CR_keys h3, fun b hb => List.mem_flatMap.2 ⟨v, hsub v (by rw [hl]; simp), by rw [← CR_refs h3]; exact hb⟩⟩
            unfold part
            rw [Sem.run_bind, isAgg_run hrow, ha]
            simp [hy]
theorem plainAt_none {C : CallR} {g : Key → V} {v u : V} {rs : List Key} {ws : WS} (hk : keys1 v = []) (h : Run C g (plainAt none v) rs (u, ws)) : ws = [] := by
  cases v
  case undef => exact h.fail_inv.elim
  case skip => exact h.fail_inv.elim
  case dead => exact h.fail_inv.elim
  case ep => cases hk
  case alias => cases hk
  case list t xs o =>
    cases o
    case own s f => cases s <;> first | exact h.fail_inv.elim | (obtain ⟨e, _⟩ := h.ret_inv; cases e; rfl)
    all_goals (obtain ⟨e, _⟩ := h.ret_inv; cases e; rfl)
  case agg cs =>
    cases ho : anyV isOpen cs with
    | false => simp only [plainAt, ho] at h; obtain ⟨e, _⟩ := h.ret_inv; cases e; rfl
    | true => simp only [plainAt, ho] at h; exact h.fail_inv.elim
  case tup cs =>
    cases ho : anyV isOpen cs with
    | false => simp only [plainAt, ho] at h; obtain ⟨e, _⟩ := h.ret_inv; cases e; rfl
    | true => simp only [plainAt, ho] at h; exact h.fail_inv.elim
  all_goals (obtain ⟨e, _⟩ := h.ret_inv; cases e; rfl)
section
variable {P : Program} {B : Bs} {X X' : List Nat} {g : Key → V} {n : Nat} {a : Act} {w : World} {M : Mem} {ι : Nat → Nat} {Gs : Key → List Nat} {C : CallR}
theorem looks_sound (hs : Sim B X g n a w M ι Gs) : ∀ (xs : List Operand) {k : List V → RM WS} {rs : List Key} {ws : WS} (hr : Run C g (looks xs k) rs ws),
    ∃ (us : List V) (rs' : List Key), Run C g (k us) rs' ws ∧ us.length = xs.length ∧ ∀ (i : Nat) (u : V) (x : Operand), us[i]? = some u → xs[i]? = some x → Looks g a w M ι u (a.eval x)
  | [], k, rs, ws, hr => ⟨[], rs, hr, rfl, fun i u x h => by simp at h⟩
  | x :: r, k, rs, ws, hr => by
    replace hr := hr.bind_inv; obtain ⟨_, _, u, _, h1, hr⟩ := hr
    obtain ⟨us, rs', h2, h3, h4⟩ := looks_sound hs r hr
    refine ⟨u :: us, rs', h2, by simp [h3], fun i v y hv hy => ?_⟩
    cases i with
    | zero => simp at hv hy; subst hv hy; exact look_sound hs h1
    | succ i => exact h4 i v y (by simpa using hv) (by simpa using hy)
variable {cfg : Cfg} {fu : FuncId} {o : Oper} {rs : List Key} {ws : WS} (hT : tabOk P cfg.tab cfg.tab = true) (hs : Sim B [] g n a w M ι Gs) (hd : inRange n o.dst = true) (hr : Run C g (evOp cfg fu o) rs ws) (Q : Exit → Act → World → Prop)
include hs hd hr
include hT in
theorem len_sound {c : Call} (ho : o.op = .call c) (hc : c.callee = .builtin .len) : o.wp P a w (Good B (gputs g ws) n) Q := by
  simp only [evOp, ho, hc] at hr
  split at hr
  · rename_i x t l hx ht
    have hx := arr1 hx
    have ht' : c.argTypes[0]? = some t := by rw [← Array.getElem?_toList, ht]; rfl
    replace hr := hr.opt_inv; obtain ⟨r, hrow, hr⟩ := hr
    split at hr
    · rename_i m e hsub
      obtain ⟨e, _⟩ := hr.ret_inv; subst e
      have hu := under_arr hT hrow hsub
      exact hs.leaf hd (x := .int .i64 m) rfl (by simp [execOp, ho, resolve, hc, invoke, builtin, Builtin.len_, ht', hx, run_underlying hu, goInt]) Q
    · replace hr := hr.bind_inv; obtain ⟨_, _, u, _, h1, hr⟩ := hr
      have hl := look_sound hs h1
      cases u
      case str s =>
        obtain ⟨hg, hr⟩ := hr.guard_inv
        obtain ⟨e, _⟩ := hr.ret_inv; subst e
        have hu := under_str hT hrow hg
        have hv : a.eval x = .string s := hl.str
        exact hs.leaf hd (x := .int .i64 s.size) rfl (by simp [execOp, ho, resolve, hc, invoke, builtin, Builtin.len_, ht', hx, hv, run_underlying hu, goInt]) Q
      case list ty xs ow =>
        obtain ⟨hg, hr⟩ := hr.guard_inv
        obtain ⟨e, _⟩ := hr.ret_inv; subst e
        obtain ⟨e, er, t', hu, _⟩ := under_list hT hrow hg
        obtain ⟨us, _, _, b, cp, hv, _⟩ := hl.list
        exact hs.leaf hd (x := .int .i64 xs.length) rfl (by simp [execOp, ho, resolve, hc, invoke, builtin, Builtin.len_, ht', hx, hv, run_underlying hu, goInt]) Q
      case nils =>
        obtain ⟨hg, hr⟩ := hr.guard_inv
        obtain ⟨e, _⟩ := hr.ret_inv; subst e
        obtain ⟨e, er, t', hu, _⟩ := under_list hT hrow hg
        have hv : a.eval x = .slice none 0 0 := hl.nils
        exact hs.leaf hd (x := .int .i64 0) rfl (by simp [execOp, ho, resolve, hc, invoke, builtin, Builtin.len_, ht', hx, hv, run_underlying hu, goInt]) Q
      all_goals exact hr.fail_inv.elim
  · exact hr.fail_inv.elim
omit hs hd hr in
theorem fold_max (k : IntKind) : ∀ (us : List V) (xs : List Value) (p : Int) {v : V}, foldInt imax k p us = some v → us.length = xs.length → (∀ (i : Nat) (u : V) (x : Value), us[i]? = some u → xs[i]? = some x → ∀ k' m, u = .int k' m → x = .int k' m) →
    ∃ m, v = .int k m ∧ (xs.foldlM Builtin.max2 (.int k p)).run P w = .ok (.int k m) w
  | [], [], p, v, h, _, _ => ⟨p, by cases h; rfl, by simp⟩
  | u :: us, x :: xs, p, v, h, hl, hx => by
    cases u
    case int k' q =>
      simp only [foldInt] at h
      split at h
      · rename_i hk
        obtain ⟨m, e, hm⟩ := fold_max k us xs _ h (by simpa using hl) (fun i u x hu hx' => hx (i + 1) u x (by simpa using hu) (by simpa using hx'))
        have e2 : x = .int k' q := hx 0 (.int k' q) x rfl rfl k' q rfl
        refine ⟨m, e, ?_⟩
        subst e2
        rw [List.foldlM_cons]
        simp only [Builtin.max2, pure_bind]
        have : (if q > p then q else p) = imax p q := rfl
        rw [this]; exact hm
      · cases h
    all_goals cases h
  | [], _ :: _, _, _, _, hl, _ => by simp at hl
  | _ :: _, [], _, _, _, hl, _ => by simp at hl
omit hs hd hr in
theorem fold_min (k : IntKind) : ∀ (us : List V) (xs : List Value) (p : Int) {v : V}, foldInt imin k p us = some v → us.length = xs.length → (∀ (i : Nat) (u : V) (x : Value), us[i]? = some u → xs[i]? = some x → ∀ k' m, u = .int k' m → x = .int k' m) →
    ∃ m, v = .int k m ∧ (xs.foldlM Builtin.min2 (.int k p)).run P w = .ok (.int k m) w
  | [], [], p, v, h, _, _ => ⟨p, by cases h; rfl, by simp⟩
  | u :: us, x :: xs, p, v, h, hl, hx => by
    cases u
    case int k' q =>
      simp only [foldInt] at h
      split at h
      · rename_i hk
        obtain ⟨m, e, hm⟩ := fold_min k us xs _ h (by simpa using hl) (fun i u x hu hx' => hx (i + 1) u x (by simpa using hu) (by simpa using hx'))
        have e2 : x = .int k' q := hx 0 (.int k' q) x rfl rfl k' q rfl
        refine ⟨m, e, ?_⟩
        subst e2
        rw [List.foldlM_cons]
        simp only [Builtin.min2, pure_bind]
        have : (if q < p then q else p) = imin p q := rfl
        rw [this]; exact hm
      · cases h
    all_goals cases h
  | [], _ :: _, _, _, _, hl, _ => by simp at hl
  | _ :: _, [], _, _, _, hl, _ => by simp at hl
theorem max_sound {c : Call} (ho : o.op = .call c) (hc : c.callee = .builtin .max) : o.wp P a w (Good B (gputs g ws) n) Q := by
  simp only [evOp, ho, hc] at hr
  obtain ⟨us, rs', hr, hl, hlk⟩ := looks_sound hs c.args.toList hr
  cases us with
  | nil => exact hr.fail_inv.elim
  | cons u us =>
    cases u
    case int k p =>
      replace hr := hr.opt_inv; obtain ⟨v, hv, hr⟩ := hr
      obtain ⟨e, _⟩ := hr.ret_inv; subst e
      cases hx : c.args.toList with
      | nil => rw [hx] at hl; simp at hl
      | cons x xs =>
        rw [hx] at hl hlk
        have hx0 : a.eval x = .int k p := (hlk 0 _ _ rfl rfl).int
        obtain ⟨m, e, hm⟩ := fold_max (P := P) (w := w) k us (xs.map a.eval) p hv (by simpa using hl) (fun i u y hu hy k' m' e => by
          rw [List.getElem?_map] at hy
          cases hxi : xs[i]? with
          | none => rw [hxi] at hy; cases hy
          | some z => rw [hxi] at hy; cases hy; subst e; exact (hlk (i + 1) _ z (by simpa using hu) (by simpa using hxi)).int)
        subst e
        exact hs.leaf hd (x := .int k m) rfl (by simp [execOp, ho, resolve, hc, invoke, builtin, Builtin.max_, hx, hx0, hm]) Q
    all_goals exact hr.fail_inv.elim
theorem min_sound {c : Call} (ho : o.op = .call c) (hc : c.callee = .builtin .min) : o.wp P a w (Good B (gputs g ws) n) Q := by
  simp only [evOp, ho, hc] at hr
  obtain ⟨us, rs', hr, hl, hlk⟩ := looks_sound hs c.args.toList hr
  cases us with
  | nil => exact hr.fail_inv.elim
  | cons u us =>
    cases u
    case int k p =>
      replace hr := hr.opt_inv; obtain ⟨v, hv, hr⟩ := hr
      obtain ⟨e, _⟩ := hr.ret_inv; subst e
      cases hx : c.args.toList with
      | nil => rw [hx] at hl; simp at hl
      | cons x xs =>
        rw [hx] at hl hlk
        have hx0 : a.eval x = .int k p := (hlk 0 _ _ rfl rfl).int
        obtain ⟨m, e, hm⟩ := fold_min (P := P) (w := w) k us (xs.map a.eval) p hv (by simpa using hl) (fun i u y hu hy k' m' e => by
          rw [List.getElem?_map] at hy
          cases hxi : xs[i]? with
          | none => rw [hxi] at hy; cases hy
          | some z => rw [hxi] at hy; cases hy; subst e; exact (hlk (i + 1) _ z (by simpa using hu) (by simpa using hxi)).int)
        subst e
        exact hs.leaf hd (x := .int k m) rfl (by simp [execOp, ho, resolve, hc, invoke, builtin, Builtin.min_, hx, hx0, hm]) Q
    all_goals exact hr.fail_inv.elim
include hT in
theorem field_sound {t : TypeId} {x : Operand} {f : Nat} (ho : o.op = .field t x f) : o.wp P a w (Good B (gputs g ws) n) Q := by
  simp only [evOp, ho] at hr
  replace hr := hr.bind_inv; obtain ⟨_, _, p, _, h1, hr⟩ := hr
  obtain ⟨G0, hV, hn, hrf, hk⟩ := opnd_sound hs h1
  replace hr := hr.opt_inv; obtain ⟨r, hrow, hr⟩ := hr
  replace hr := hr.opt_inv; obtain ⟨q, hq, hr⟩ := hr
  replace hr := hr.opt_inv; obtain ⟨qr, hqr, hr⟩ := hr
  cases p
  case agg cs =>
    replace hr := hr.opt_inv; obtain ⟨v, hj, hr⟩ := hr
    replace hr := hr.bind_inv; obtain ⟨_, _, u, _, h2, hr⟩ := hr
    obtain ⟨e, _⟩ := hr.ret_inv; subst e
    obtain ⟨vals, hx, hls⟩ := hV
    obtain ⟨y, G', hp, hvy, hn', hkv, hrv⟩ := part_sound (P := P) (w := w) (rowOk_of hT hqr) hls hn hj
    obtain ⟨u1, u2⟩ := u
    have hw := plainAt_none hkv h2
    subst hw
    have hg := plainAt_sound (k := none) hs (fun q hq => by cases hq) hvy hn' (fun b hb => hrf b (hrv b hb)) h2
    refine Gets.put (ws := []) ⟨[], hg⟩ hd ?_ Q
    obtain ⟨d, hu, hdesc⟩ := (rowOk_of hT hrow).under
    unfold fieldOf at hq
    split at hq
    · rename_i hsub
      cases d <;> simp [descOk, hsub] at hdesc
      rename_i fields
      obtain ⟨fd, h3, h4, h5, _⟩ := fieldsOk_at hdesc.2 hq
      rw [Array.getElem?_toList] at h3
      simp only [execOp, ho, hx]
      simp [Instr.field, run_underlying hu, h3, h4, h5, hp, asAgg]
    · cases hq
  all_goals exact hr.fail_inv.elim
include hT in
theorem index_sound {t : TypeId} {x y : Operand} (ho : o.op = .index t x y) : o.wp P a w (Good B (gputs g ws) n) Q := by
  simp only [evOp, ho] at hr
  replace hr := hr.bind_inv; obtain ⟨_, _, p, _, h1, hr⟩ := hr
  replace hr := hr.bind_inv; obtain ⟨_, _, m, _, h1', hr⟩ := hr
  obtain ⟨G0, hV, hn, hrf, hk⟩ := opnd_sound hs h1
  obtain ⟨G1, hV', hn', hrf', hk'⟩ := opnd_sound hs h1'
  replace hr := hr.opt_inv; obtain ⟨r, hrow, hr⟩ := hr
  cases p
  case str s =>
    cases m
    case int k i =>
      cases hsub : r.sub
      case flat =>
        rw [hsub] at hr
        obtain ⟨hg, hr⟩ := hr.guard_inv
        obtain ⟨e, _⟩ := hr.ret_inv; subst e
        simp only [Bool.and_eq_true, decide_eq_true_eq] at hg
        obtain ⟨hg, h2, h3⟩ := hg
        have hu := under_str hT hrow hg
        have hx : a.eval x = .string s := hV.1
        have hy : a.eval y = .int k i := hV'.1
        have hlt : i.toNat < s.size := by omega
        refine hs.leaf hd (x := .int .u8 (byteAt s i)) rfl ?_ Q
        have hb : s[i.toNat]? = some s[i.toNat] := by simp [hlt]
        have hb2 : byteAt s i = (s[i.toNat].toNat : Int) := by
          have : s.data[i.toNat]? = some s[i.toNat] := by
            show s.data[i.toNat]? = some (s.data[i.toNat])
            exact Array.getElem?_eq_getElem hlt
          unfold byteAt; rw [this]; rfl
        simp only [execOp, ho, hx, hy]
        simp [Instr.index, asIntOf, run_underlying hu, h2, hb, hb2]
      all_goals (rw [hsub] at hr; exact hr.fail_inv.elim)
    all_goals exact hr.fail_inv.elim
  case agg cs =>
    cases m
    case int k i =>
      cases hsub : r.sub
      case arr m e =>
        rw [hsub] at hr
        replace hr := hr.opt_inv; obtain ⟨er, her, hr⟩ := hr
        obtain ⟨hg, hr⟩ := hr.guard_inv
        simp only [Bool.and_eq_true, decide_eq_true_eq] at hg
        replace hr := hr.opt_inv; obtain ⟨v, hj, hr⟩ := hr
        replace hr := hr.bind_inv; obtain ⟨_, _, u, _, h2, hr⟩ := hr
        obtain ⟨e, _⟩ := hr.ret_inv; subst e
        obtain ⟨vals, hx, hls⟩ := hV
        have hy : a.eval y = .int k i := hV'.1
        obtain ⟨z, G', hp, hvy, hn', hkv, hrv⟩ := part_sound (P := P) (w := w) (rowOk_of hT her) hls hn hj
        obtain ⟨u1, u2⟩ := u
        have hw := plainAt_none hkv h2
        subst hw
        have hg2 := plainAt_sound (k := none) hs (fun q hq => by cases hq) hvy hn' (fun b hb => hrf b (hrv b hb)) h2
        have hu := under_arr hT hrow hsub
        refine Gets.put (ws := []) ⟨[], hg2⟩ hd ?_ Q
        simp only [execOp, ho, hx, hy]
        simp [Instr.index, asIntOf, run_underlying hu, hg, sizeOf_run (rowOk_of hT her), hp]
      all_goals (rw [hsub] at hr; exact hr.fail_inv.elim)
    all_goals exact hr.fail_inv.elim
  all_goals (cases m <;> first | exact hr.fail_inv.elim | (cases hsub : r.sub <;> rw [hsub] at hr <;> exact hr.fail_inv.elim))
omit hs hd hr in
/-- the place of an element -/
theorem indexAt_run (hT : tabOk P cfg.tab cfg.tab = true) {t e : TypeId} {r : Row} (hrow : rowAt cfg.tab t = some r) (hsub : r.sub = .slice e) {ty : Ty} (hi : isElt cfg.tab r.sub ty = true) {k : IntKind} {i : Int} {b o' len c : Nat} (h0 : 0 ≤ i) (h1 : i < (len : Int)) :
    (Instr.indexAt t (.slice (some ⟨b, o', none⟩) len c) (.int k i)).run P w = .ok (.pointer (some ⟨b, o' + i.toNat * ty.size, none⟩)) w := by
  obtain ⟨hu, er, her, hck, _⟩ := elt_size hT hrow hsub hi
  have hsz : (sizeOf e).run P w = .ok ty.size w := by rw [sizeOf_run (rowOk_of hT her), hck, cksTy_len]
  simp [Instr.indexAt, asIntOf, run_underlying hu, h0, h1, hsz, addr_add]
omit hs hd hr in
theorem elt_of_lst {E : En} {ty : Ty} {xs : List ty.den} {v : Value} {i : Nat} (h : lstR E.M ty xs v) (hi : i < xs.length) : ∃ b o' c, v = .slice (some ⟨b, o', none⟩) xs.length c ∧ ∀ x, xs.getD i ty.zero = x → VR E (.elt ty x 0) (.pointer (some ⟨b, o' + i * ty.size, none⟩)) [] := by
  obtain ⟨ad, c, rfl, hc, hx⟩ := h
  obtain ⟨b, o', us, ha, hd, hu⟩ := hx i xs[i] (List.getElem?_eq_getElem hi)
  subst ha
  refine ⟨b, o', c, rfl, fun x hxe => ⟨⟨b, o' + i * ty.size, us, rfl, ?_, hu⟩, rfl⟩⟩
  rw [← hxe, List.getD_eq_getElem?_getD, List.getElem?_eq_getElem hi]; exact hd
include hT in
theorem indexAddr_sound {t : TypeId} {x y : Operand} (ho : o.op = .indexAddr t x y) : o.wp P a w (Good B (gputs g ws) n) Q := by
  simp only [evOp, ho] at hr
  replace hr := hr.bind_inv; obtain ⟨_, _, p, _, h1, hr⟩ := hr
  replace hr := hr.bind_inv; obtain ⟨_, _, m, _, h1', hr⟩ := hr
  obtain ⟨G0, hV, hn, hrf, hk⟩ := opnd_sound hs h1
  obtain ⟨G1, hV', hn', hrf', hk'⟩ := opnd_sound hs h1'
  replace hr := hr.opt_inv; obtain ⟨r, hrow, hr⟩ := hr
  cases m
  case int k i =>
    have hy : a.eval y = .int k i := hV'.1
    cases hsub : r.sub
    case slice e =>
      cases p
      case list ty xs ow =>
        have hr : ∃ rs', Run C g (RM.guard (isElt cfg.tab r.sub ty && (decide (0 ≤ i) && decide (i < (xs.length : Int)))) ((plainAt (keyOf x) (.list ty xs ow)).bind fun u => .ret (u.2 ++ dstW o.dst (.elt ty (xs.getD i.toNat ty.zero) 0)))) rs' ws := by
          rw [hsub] at hr ⊢; exact ⟨_, hr⟩
        obtain ⟨_, hr⟩ := hr
        obtain ⟨hg, hr⟩ := hr.guard_inv
        simp only [Bool.and_eq_true, decide_eq_true_eq] at hg
        obtain ⟨hg, h2, h3⟩ := hg
        replace hr := hr.bind_inv; obtain ⟨_, _, u, _, h4, hr⟩ := hr
        obtain ⟨e, _⟩ := hr.ret_inv; subst e
        obtain ⟨u1, u2⟩ := u
        obtain ⟨M', Gs', q1, q2, q3, q4, q5, q6, q7, q8, q9, q10, q11⟩ := plainAt_sound hs hk hV hn hrf h4
        have hlst : lstR M' ty xs (a.eval x) := by
          cases ow with
          | no => obtain ⟨e, _⟩ := h4.ret_inv; cases e; exact (q2 (fun _ => none)).1
          | nil => exact absurd h3 (by rw [hV.1.1]; simp; omega)
          | own s f =>
            cases hkx : keyOf x with
            | none => rw [hkx] at h4; cases s <;> first | exact h4.fail_inv.elim | (obtain ⟨e, _⟩ := h4.ret_inv; cases e; exact (q2 (fun _ => none)).1)
            | some kk => rw [hkx] at h4; cases s <;> (obtain ⟨e, _⟩ := h4.ret_inv; cases e; exact (q2 (fun _ => none)).1)
        obtain ⟨b, o', c, hx, hel⟩ := elt_of_lst (E := enOf (gputs g u2) a (fun k => w.heap[k]?) M' ι) (i := i.toNat) hlst (by omega)
        rw [gputs_dst]
        refine q1.val0 (.elt ty (xs.getD i.toNat ty.zero) 0) _ hd (hel _ rfl) ?_ rfl (fun b hb => by cases hb) rfl Q
        simp only [execOp, ho, hx, hy]
        rw [Sem.run_bind, indexAt_run hT hrow hsub hg h2 h3]; simp
      case alias q =>
        have hr : ∃ rs', Run C g (.rd q fun u => match u with
          | .list ty xs (.own true false) => RM.guard (isElt cfg.tab r.sub ty && (decide (0 ≤ i) && decide (i < (xs.length : Int)))) (.ret (dstW o.dst (.elt ty (xs.getD i.toNat ty.zero) 0)))
          | .list ty xs (.own false false) => RM.guard (isElt cfg.tab r.sub ty && (decide (0 ≤ i) && decide (i < (xs.length : Int)))) (.ret (dstW o.dst (.ep q ty i.toNat 0)))
          | _ => .fail) rs' ws := by
          rw [hsub] at hr ⊢; exact ⟨_, hr⟩
        obtain ⟨_, hr⟩ := hr
        replace hr := hr.rd_inv; obtain ⟨_, _, hr⟩ := hr
        have hold : isOld (g q) = true → ∀ v', valAt a (fun k => w.heap[k]?) ι q = some v' → a.eval x = v' := fun h v' hv => hV.1 v' (by simp only [enOf, oldAt]; rw [if_pos h]; exact hv)
        split at hr
        · rename_i ty xs hq
          obtain ⟨hg, hr⟩ := hr.guard_inv
          simp only [Bool.and_eq_true, decide_eq_true_eq] at hg
          obtain ⟨hg, h2, h3⟩ := hg
          obtain ⟨e, _⟩ := hr.ret_inv; subst e
          obtain ⟨v', h5, h6, _⟩ := hs.at (k := q) (by rw [hq]; rfl)
          have hxv := hold (by rw [hq]; rfl) v' h5
          rw [hq, ← hxv] at h6
          obtain ⟨b, o', c, hx, hel⟩ := elt_of_lst (E := enOf g a (fun k => w.heap[k]?) M ι) (i := i.toNat) (ownR_lst (h := fun k => w.heap[k]?) h6) (by omega)
          refine hs.val0 (.elt ty (xs.getD i.toNat ty.zero) 0) _ hd (hel _ rfl) ?_ rfl (fun b hb => by cases hb) rfl Q
          simp only [execOp, ho, hx, hy]
          rw [Sem.run_bind, indexAt_run hT hrow hsub hg h2 h3]; simp
        · rename_i ty xs hq
          obtain ⟨hg, hr⟩ := hr.guard_inv
          simp only [Bool.and_eq_true, decide_eq_true_eq] at hg
          obtain ⟨hg, h2, h3⟩ := hg
          obtain ⟨e, _⟩ := hr.ret_inv; subst e
          obtain ⟨v', h5, h6, _⟩ := hs.at (k := q) (by rw [hq]; rfl)
          have hxv := hold (by rw [hq]; rfl) v' h5
          rw [hq, ← hxv] at h6
          have hsl : ∃ b o' c, a.eval x = .slice (some ⟨b, o', none⟩) xs.length c := by
            rcases (show ownR M (fun k => w.heap[k]?) ty xs false (a.eval x) (Gs q) from h6) with ⟨_, e, _⟩ | ⟨_, e, _⟩ | ⟨b, off, c, _, _, _, _, e, _⟩
            · subst e; simp at h3; omega
            · cases e
            · exact ⟨b, off, c, e⟩
          obtain ⟨b, o', c, hx⟩ := hsl
          refine hs.val0 (.ep q ty i.toNat 0) (.pointer (some ⟨b, o' + i.toNat * ty.size, none⟩)) hd ⟨fun v'' hv => ?_, rfl⟩ ?_ rfl (fun b hb => by cases hb) rfl Q
          · simp only [enOf, oldAt] at hv
            rw [if_pos (by rw [hq]; rfl), h5] at hv
            cases hv
            exact ⟨b, o', xs.length, c, by rw [← hxv, hx], by omega, rfl⟩
          · simp only [execOp, ho, hx, hy]
            rw [Sem.run_bind, indexAt_run hT hrow hsub hg h2 h3]; simp
        · exact hr.fail_inv.elim
      all_goals (rw [hsub] at hr; exact hr.fail_inv.elim)
    case arr m e =>
      cases p
      case ref b off =>
        rw [hsub] at hr
        replace hr := hr.opt_inv; obtain ⟨er, her, hr⟩ := hr
        obtain ⟨hg, hr⟩ := hr.guard_inv
        simp only [Bool.and_eq_true, decide_eq_true_eq] at hg
        obtain ⟨e, _⟩ := hr.ret_inv; subst e
        have hx : a.eval x = .pointer (some ⟨ι b, off, none⟩) := hV.1
        have hu := under_arr hT hrow hsub
        refine hs.val0 (.ref b (off + i.toNat * er.cks.length)) (.pointer (some ⟨ι b, off + i.toNat * er.cks.length, none⟩)) hd ⟨rfl, rfl⟩ ?_ rfl hrf rfl Q
        simp only [execOp, ho, hx, hy]
        simp [Instr.indexAt, asIntOf, run_underlying hu, hg, Instr.sureAddr, sizeOf_run (rowOk_of hT her), addr_add]
      all_goals (rw [hsub] at hr; exact hr.fail_inv.elim)
    all_goals (cases p <;> rw [hsub] at hr <;> exact hr.fail_inv.elim)
  all_goals (cases p <;> first | exact hr.fail_inv.elim | (cases hsub : r.sub <;> rw [hsub] at hr <;> exact hr.fail_inv.elim))
end
end Go.Proofs.Ytkfphlmbdppbfaa.Vm
