/- The walk of RunOver. No condition. -/
import Derived.Test.YtcnoaflojojfkabRunAwake
import Derived.Test.YtcnoaflojojfkabQuery
namespace Go.Proofs.Ytcnoaflojojfkab.Rn
open Go.RowKit Go.Proofs.Ytcnoaflojojfkab.Pat Go.Proofs.Ytcnoaflojojfkab.Qry Go.Proofs.Ytcnoaflojojfkab.Evt
set_option linter.unusedVariables false
set_option linter.unusedSimpArgs false
set_option maxRecDepth 100000
theorem tw_all (l : List El) : (l.takeWhile El.neg).length ≤ l.length ∧ ((l.takeWhile El.neg).length = l.length ↔ l.all El.neg = true) := by
  induction l with
  | nil => simp
  | cons a l ih =>
    cases h : a.neg with
    | false => simp [List.takeWhile_cons, h]
    | true => simp [List.takeWhile_cons, h]; simpa using ih
theorem next_all {es : List El} {s : Nat} (hs : s ≤ es.length) : decide (nextOf es s < 0) = (es.drop s).all El.neg := by
  have h := tw_all (es.drop s)
  rw [List.length_drop] at h
  have hn : negs es s = ((es.drop s).takeWhile El.neg).length := rfl
  rw [← hn] at h
  unfold nextOf
  cases ha : (es.drop s).all El.neg with
  | true =>
    have := h.2.2 ha
    rw [if_neg (by omega)]; rfl
  | false =>
    have : negs es s ≠ es.length - s := fun e => by have := h.2.1 e; rw [ha] at this; cases this
    rw [if_pos (by omega)]; exact decide_eq_false (by omega)
/-- whether all that stand from one place on, up to another, must not be there -/
def lastUp (es : List El) (s i : Nat) : Bool := ((es.drop s).take (i - s)).all El.neg
theorem lastUp_go {es : List El} {s i : Nat} {e : El} (hs : s ≤ i) (h : es[i]? = some e) : lastUp es s (i + 1) = (lastUp es s i && e.neg) := by
  unfold lastUp
  rw [show i + 1 - s = (i - s) + 1 by omega, List.take_add_one, List.getElem?_drop, show s + (i - s) = i by omega, h]
  simp
theorem lastUp_end {es : List El} {s : Nat} (hs : s ≤ es.length) : lastUp es s es.length = (es.drop s).all El.neg := by
  unfold lastUp
  rw [List.take_of_length_le (by rw [List.length_drop]; omega)]
theorem PC.frx {W W' : World} {m : Option Addr} {n : Nat} {el : Int} {g : Nat} {cs : List Value} {t : TypeId} (h : PC W m n el) (hf : Fr [g] W W') (hb : Blk W g cs t) (hz : cs.length = 8) : PC W' m n el := by
  rcases h with h | ⟨mb, sq, p, h1, h2, h3⟩
  · exact .inl h
  · refine .inr ⟨mb, sq, p, h1, h2, h3.fr hf ?_⟩
    simp only [List.mem_singleton]
    rintro rfl
    have := hb.inj h3
    rw [this] at hz
    simp at hz
theorem Ch_bound.frx {W W' : World} {m : Value} {n : Nat} {g : Nat} {cs : List Value} {t : TypeId} {z : Bool} (h : Ch_bound W m n) (hf : Fr [g] W W') (hb : Blk W g cs t) (hz : cs[7]? = some (.bool z)) : Ch_bound W' m n := by
  rcases h with h | ⟨mb, h1, h2, h3⟩
  · exact .inl h
  · refine .inr ⟨mb, h1, h2, hf.cell h3 ?_⟩
    simp only [List.mem_singleton]
    rintro rfl
    have := (hb.cell 7).symm.trans h3
    rw [hz] at this
    cases this
set_option maxHeartbeats 8000000 in
theorem runOver_any (zs : List Int) (ap : Option Addr) (cp : Nat) (l : List Ev) (al : Option Addr) (cl : Nat) (n0 n1 n2 : Int) (w : World)
    (hR : Reads w 1 (.slice ap zs.length cp) zs.length (zs.map (Value.int .i64))) (hlen : zs.length * 8 ≤ 140737488351232)
    (hE : Reads w 5 (.slice al l.length cl) l.length (l.flatMap Ev.cells)) (hok : ∀ e ∈ l, EvOk w e) (hll : l.length ≤ maxLen) :
    Calls Try.prog 12 #[.slice ap zs.length cp, .slice al l.length cl, .agg #[.int .i64 n0, .int .i64 n1, .int .i64 n2]] w fun e w' => e = .returned (.bool true) ∧ Fr [] w w' := by
  obtain ⟨hba, hfa⟩ := new1 w [.int .i64 n0, .int .i64 n1, .int .i64 n2] 50
  obtain ⟨wa, hwa⟩ : ∃ W, W = w.alloc (.cells [.int .i64 n0, .int .i64 n1, .int .i64 n2].toArray 50) := ⟨_, rfl⟩
  rw [← hwa] at hba hfa
  have BA := Lib.hid hba
  have FA := Lib.hid hfa
  have HR := Lib.hid (hR.fr0 hfa)
  have HE := Lib.hid (hE.fr0 hfa)
  have HOK : Hid (∀ W, Fr [] wa W → ∀ e ∈ l, EvOk W e) := Lib.hid (fun W hW e he => evok_fr0 (hok e he) (hfa.trans0 hW))
  clear hba hfa hR hE hok
  go_enter Try.func12, Try.ntmps12
  go_upto_region 1 with (fail)
  rw [show w.alloc (.cells #[.int .i64 n0, .int .i64 n1, .int .i64 n2] 50) = wa from hwa.symm]
  obtain ⟨nb, hnb⟩ : ∃ q, q = w.heap.size := ⟨_, rfl⟩
  rw [← hnb] at BA ⊢
  clear hwa hnb
  go_wp2_with fail
  refine (query_any zs ap cp wa HR.out hlen).mono ?_
  rintro _ w1 ⟨es, a, c, win, cap, rfl, hM, h1, h4, hw1, hw2, _, _⟩
  have F1 := Lib.hid hM.fr
  have HG : Hid (∀ (i : Nat) (e : El), es[i]? = some e → 0 ≤ e.mx ∧ e.mx ≤ 3) := Lib.hid (fun i e he => by
    obtain ⟨_, g1, g2, g3, g4, _⟩ := (hM.each i e he).1
    omega)
  have HQ := Lib.hid hM.view.reads
  clear hM HR
  go_upto_region 2 with (fail)
  obtain ⟨hbq, hfq⟩ := new1 w1 [.slice a es.length c, .int .i64 win, .int .i64 cap] 67
  obtain ⟨wq, hwq⟩ : ∃ W, W = w1.alloc (.cells [.slice a es.length c, .int .i64 win, .int .i64 cap].toArray 67) := ⟨_, rfl⟩
  rw [← hwq] at hbq hfq
  rw [show w1.alloc (.cells #[.slice a es.length c, .int .i64 win, .int .i64 cap] 67) = wq from hwq.symm]
  obtain ⟨qb, hqb⟩ : ∃ q, q = w1.heap.size := ⟨_, rfl⟩
  rw [← hqb] at hbq ⊢
  have BQ := Lib.hid hbq
  have Fq := Lib.hid (F1.out.trans0 hfq)
  have HQF : Hid (∀ W, Fr [] wq W → Reads W 6 (.slice a es.length c) es.length (qcells es)) := Lib.hid (fun W hW => HQ.out.fr0 (hfq.trans0 hW))
  clear hwq hbq hfq hqb HQ F1
  go_wp2_with fail
  refine (events_any l al cl 4 (by omega) wq (HE.out.fr0 Fq.out) (HOK.out _ Fq.out) hll).mono ?_
  rintro _ w3 ⟨xs, xa, xc, rfl, hxl, hEv⟩
  have HEV := Lib.hid hEv
  have HXL : Hid (xs.length ≤ 4) := Lib.hid (by rw [hxl]; omega)
  have HL0 := Lib.hid hxl
  clear hxl hEv HE HOK
  obtain ⟨kk, hkk⟩ : ∃ q : Nat, (q : Int) = (n0 % 256) % (es.length : Int) := ⟨((n0 % 256) % (es.length : Int)).toNat, by have := Int.emod_nonneg (n0 % 256) (b := (es.length : Int)) (by omega); omega⟩
  have hkl : kk < es.length := by have := Int.emod_lt_of_pos (n0 % 256) (b := (es.length : Int)) (by omega); omega
  have hand : bits .and .i64 n0 255 = n0 % 256 := and255 n0
  have hrem : (n0 % 256).tmod (es.length : Int) = (kk : Int) := by rw [Int.tmod_eq_emod_of_nonneg (by omega)]; exact hkk.symm
  have hz : ((es.length : Int) == 0) = false := by rw [beq_eq_false_iff_ne]; omega
  have hz2 : ¬ ((es.length : Int) = 0) := by omega
  have HW3 := Lib.hid (Fq.out.trans0 HEV.out.fr)
  have a0 := (BA.out.fr HW3.out (by simp)).cell_at (o := 0) rfl
  have q0 := (BQ.out.fr HEV.out.fr (by simp)).cell_at (o := 0) rfl
  clear hkk
  go_upto_region 4 with (fail)
  clear a0 q0 hand hrem
  go_upto_region 5 with (fail)
  obtain ⟨hbr, hfr⟩ := new1 w3 (rcells 0 none none 0 0 0 0 false) 73
  obtain ⟨wb, hwb⟩ : ∃ W, W = w3.alloc (.cells (rcells 0 none none 0 0 0 0 false).toArray 73) := ⟨_, rfl⟩
  rw [← hwb] at hbr hfr
  rw [show w3.alloc (.cells #[.int .i64 0, .pointer none, .pointer none, .int .i64 0, .int .i64 0, .int .i64 0, .int .i64 0, .bool false] 73) = wb from hwb.symm]
  obtain ⟨rb, hrb⟩ : ∃ q, q = w3.heap.size := ⟨_, rfl⟩
  rw [← hrb] at hbr ⊢
  have BR := Lib.hid hbr
  have FR : Hid (Fr [] wq wb) := Lib.hid (HEV.out.fr.trans0 hfr)
  have BQR := Lib.hid (BQ.out.fr FR.out (by simp))
  have HQB : Hid (qb < rb) := Lib.hid (by have := (BQ.out.fr HEV.out.fr (by simp)).lt; omega)
  have BAR := Lib.hid (BA.out.fr (HW3.out.trans0 hfr) (by simp))
  have HWR : Hid (Fr [] wa wb) := Lib.hid (HW3.out.trans0 hfr)
  have HSZ : Hid (w3.heap.size = rb) := Lib.hid hrb.symm
  have HFRB := Lib.hid hfr
  clear hwb hbr hfr hrb
  have r0 := BR.out.cell_at (o := 0) rfl
  have r1 := BR.out.cell_at (o := 1) rfl
  have r2 := BR.out.cell_at (o := 2) rfl
  have r3 := BR.out.cell_at (o := 3) rfl
  have r4 := BR.out.cell_at (o := 4) rfl
  have r5 := BR.out.cell_at (o := 5) rfl
  have r6 := BR.out.cell_at (o := 6) rfl
  have r7 := BR.out.cell_at (o := 7) rfl
  have q0 := BQR.out.cell_at (o := 0) rfl
  have q1 := BQR.out.cell_at (o := 1) rfl
  have q2 := BQR.out.cell_at (o := 2) rfl
  have a1 := BAR.out.cell_at (o := 1) rfl
  obtain ⟨tt, htt⟩ : ∃ q, q = n1 % 64 := ⟨_, rfl⟩
  have ht1 : 0 ≤ tt ∧ tt ≤ 63 := by omega
  have hand1 : bits .and .i64 n1 63 = tt := by rw [htt]; exact and63 n1
  clear htt
  go_wp2_with fail
  refine (over_any 0 none none 0 0 0 0 false 0 a es.length c win cap tt wb (.inl ⟨rfl, rfl⟩) (by omega) (by omega) false rfl).mono ?_
  rintro _ x1 ⟨rfl, hf⟩
  have G1 := Lib.hid hf
  clear hf r0 r1 r2 r3 r4 r5 r6 r7 q0 q1 q2 a1
  have r0 := (BR.out.fr G1.out (by simp)).cell_at (o := 0) rfl
  have r1 := (BR.out.fr G1.out (by simp)).cell_at (o := 1) rfl
  have r2 := (BR.out.fr G1.out (by simp)).cell_at (o := 2) rfl
  have r3 := (BR.out.fr G1.out (by simp)).cell_at (o := 3) rfl
  have r4 := (BR.out.fr G1.out (by simp)).cell_at (o := 4) rfl
  have r5 := (BR.out.fr G1.out (by simp)).cell_at (o := 5) rfl
  have r6 := (BR.out.fr G1.out (by simp)).cell_at (o := 6) rfl
  have r7 := (BR.out.fr G1.out (by simp)).cell_at (o := 7) rfl
  have q0 := (BQR.out.fr G1.out (by simp)).cell_at (o := 0) rfl
  have q1 := (BQR.out.fr G1.out (by simp)).cell_at (o := 1) rfl
  have q2 := (BQR.out.fr G1.out (by simp)).cell_at (o := 2) rfl
  have a2 := (BAR.out.fr G1.out (by simp)).cell_at (o := 2) rfl
  go_wp2_with fail
  refine (dead_none 0 none 0 0 0 0 false a es.length c win cap n2 x1).mono ?_
  rintro _ x2 ⟨rfl, hf⟩
  have G2 := Lib.hid (G1.out.trans0 hf)
  clear hf r0 r1 r2 r3 r4 r5 r6 r7 q0 q1 q2 a2 G1
  by_cases hx0 : xs.length = 0
  · have hx0I : ((xs.length : Int) == 0) = true := by rw [beq_iff_eq]; omega
    have hx0J : (xs.length : Int) = 0 := by omega
    clear hx0
    go_wp2_with fail
    refine (awake_any x2).mono ?_
    rintro _ x3 ⟨rfl, hf⟩
    have G3 := Lib.hid (G2.out.trans0 hf)
    clear hf
    go_wp2_with fail
    go_ret
    exact ⟨rfl, (FA.out.trans0 HWR.out).trans0 G3.out⟩
  · have hx0I : ((xs.length : Int) == 0) = false := by rw [beq_eq_false_iff_ne]; omega
    have hx0J : ¬ ((xs.length : Int) = 0) := by omega
    have HX0 := Lib.hid hx0
    clear hx0
    obtain ⟨x0, hx0⟩ : ∃ e, xs[0]? = some e := ⟨_, List.getElem?_eq_getElem (by have := HX0.out; omega)⟩
    have HX00 := Lib.hid hx0
    have hx0t : 0 ≤ x0.time ∧ x0.time ≤ 15 := (HEV.out.each 0 x0 hx0).1.2.2
    obtain ⟨x, hx⟩ : ∃ e, es[kk]? = some e := ⟨_, List.getElem?_eq_getElem hkl⟩
    have HX := Lib.hid hx
    clear hx hx0
    have hxl4 := HXL.out
    have HQ3 : Hid (∀ W, Fr [] w3 W → Reads W 6 (.slice a es.length c) es.length (qcells es)) := Lib.hid (fun W hW => HQF.out _ (HEV.out.fr.trans0 hW))
    have HRB0 : Hid (w3.heap.size ≤ rb) := Lib.hid (by rw [← HSZ.out]; exact Nat.le_refl _)
    have F3 : Hid (Fr [] w3 x2) := Lib.hid (HFRB.out.trans0 G2.out)
    go_upto_region 7 with (fail)
    go_wp2_with fail
    go_loopw [11] (fun v11 wr => ∃ (j ne : Nat) (st : Int) (m env : Option Addr) (first lt ls la : Int) (bl : Bool) (elp : Int), j ≤ xs.length ∧ v11 = .int .i64 j ∧ Blk wr rb (rcells st m env first lt ls la bl) 73 ∧ PC wr m j elp ∧
      (0 < j → elp = kk ∧ first = x0.time ∧ st = 1 ∧ la = 0 ∧ bl = false) ∧ Ch_bound wr (.pointer env) ne ∧ ne ≤ j ∧ Fr [rb] x2 wr) (fun v11 _ => xs.length - (intOf v11).toNat)
    case atStart => exact ⟨0, 0, 0, none, none, 0, 0, 0, 0, false, 0, by omega, rfl, BR.out.fr G2.out (by simp), .inl ⟨rfl, rfl⟩, fun h => by omega, .inl ⟨rfl, rfl⟩, by omega, Fr.refl _ _⟩
    case round =>
      obtain ⟨j, ne, st, m, env, first, lt, ls, la, bl, elp, hj, rfl, hB, hP, hfi, hV, hne, hF⟩ := hrel
      have BR := Lib.hid hB
      have HP := Lib.hid hP
      have HFI := Lib.hid hfi
      have HV := Lib.hid hV
      have HF := Lib.hid hF
      have HFB : Hid (Fr [] w3 wr) := Lib.hid (F3.out.trans hF (fun b hb => .inr (by simp at hb; rw [hb]; exact HRB0.out)))
      have BQr := Lib.hid (BQR.out.fr (G2.out.of_nil.same hF) (by have := HQB.out; simp; omega))
      clear hB hP hfi hV hF
      by_cases hjl : j < xs.length
      · obtain ⟨e, he⟩ : ∃ e, xs[j]? = some e := ⟨_, List.getElem?_eq_getElem hjl⟩
        obtain ⟨eb, eo, rfl⟩ := HEV.out.view.reads.rec_addr Ev.len (by omega) he
        have hrd := HEV.out.view.reads.fr0 HFB.out
        have e0 := hrd.rec Ev.len he (k := 0) rfl
        have e1 := hrd.rec Ev.len he (k := 1) rfl
        have e2 := hrd.rec Ev.len he (k := 2) rfl
        have e3 := hrd.rec Ev.len he (k := 3) rfl
        have e4 := hrd.rec Ev.len he (k := 4) rfl
        rw [Nat.add_zero] at e0
        have HRB : Hid (qb < rb ∧ eb < rb) := Lib.hid ⟨HQB.out, by have := World.block_lt_of_cell? w3 _ (HEV.out.view.reads.rec Ev.len he (k := 1) rfl); have := HSZ.out; simp at *; omega⟩
        have HSE : Hid (∀ W, Fr [] w3 W → Sees4 W e) := Lib.hid (fun W hW => (HEV.out.each j e he).2.1.fr (HEV.out.each j e he).2.2.nil hW)
        have HXE := Lib.hid he
        clear hrd he
        have q0 := BQr.out.cell_at (o := 0) rfl
        have q1 := BQr.out.cell_at (o := 1) rfl
        have q2 := BQr.out.cell_at (o := 2) rfl
        have hjI : (j : Int) < (xs.length : Int) := by omega
        have hj0 : 0 ≤ (j : Int) := by omega
        go_upto_region 10 with (fail)
        refine wp_region_tree_np (fun W => W.cell? ⟨qb, 0, none⟩ = some (.slice a es.length c) ∧ W.cell? ⟨qb, 1, none⟩ = some (.int .i64 win) ∧ W.cell? ⟨qb, 2, none⟩ = some (.int .i64 cap) ∧ W.cell? ⟨eb, eo + j * 5, none⟩ = some (.string e.typ) ∧ W.cell? ⟨eb, eo + j * 5 + 1, none⟩ = some (.string e.key) ∧ W.cell? ⟨eb, eo + j * 5 + 2, none⟩ = some (.int .i64 e.time) ∧ W.cell? ⟨eb, eo + j * 5 + 3, none⟩ = some (.int .i64 e.seq) ∧ W.cell? ⟨eb, eo + j * 5 + 4, none⟩ = some (.slice e.va e.vn e.vc)) (.on 1 (.on 2 (.on 3 (.on 4 (.on 5 (.on 6 (.one 0 (.one 7 (.one 8 .nil))))))))) (by kernel_rfl) (by kernel_rfl) ⟨q0, q1, q2, e0, e1, e2, e3, e4⟩ ?_
        obtain ⟨y0, hy0⟩ : ∃ W, W = wr.drew := ⟨_, rfl⟩
        have G0 : Hid (Fr [] wr y0) := Lib.hid (by rw [hy0]; exact (Fr.refl _ _).drew)
        rw [← hy0]
        clear hy0
        iterate 6 (first | (refine ht_on (o := ?_) (v := ?_) ?_ ?_ (fun w hSw => ?_) ?_; rotate_left 2; (focus ((simp only [List.getElem?_toArray, List.getElem?_cons_succ, List.getElem?_cons_zero]); (try rfl); done)); (focus (rfl)); (focus (((try obtain ⟨s0, s1, s2, s3, s4, s5, s6, s7⟩ := hSw); (try dsimp only at hSw); go_simp; (try with_reducible rfl)); done)); simp only [Act.put, List.setIfInBounds_toArray, List.set_cons_zero, List.set_cons_succ]) | (refine ht_off_light (o := ?_) ?_ ?_ ?_; rotate_left 1; (focus ((simp only [List.getElem?_toArray, List.getElem?_cons_succ, List.getElem?_cons_zero]); (try rfl); done)); (focus (rfl)); simp only [Act.put, List.setIfInBounds_toArray, List.set_cons_zero, List.set_cons_succ]))
        refine ht_one (o := ?_) ?_ ?_ (fun K hK => ?_)
        rotate_left 1
        (focus ((simp only [List.getElem?_toArray, List.getElem?_cons_succ, List.getElem?_cons_zero]); (try rfl); done))
        focus (rfl)
        have r0 := (BR.out.fr G0.out (by simp)).cell_at (o := 0) rfl
        have r1 := (BR.out.fr G0.out (by simp)).cell_at (o := 1) rfl
        have r2 := (BR.out.fr G0.out (by simp)).cell_at (o := 2) rfl
        have r3 := (BR.out.fr G0.out (by simp)).cell_at (o := 3) rfl
        have r4 := (BR.out.fr G0.out (by simp)).cell_at (o := 4) rfl
        have r5 := (BR.out.fr G0.out (by simp)).cell_at (o := 5) rfl
        have r6 := (BR.out.fr G0.out (by simp)).cell_at (o := 6) rfl
        have r7 := (BR.out.fr G0.out (by simp)).cell_at (o := 7) rfl
        go_simp
        refine hK.out _ _ ⟨G0.out.cell q0 (by simp), G0.out.cell q1 (by simp), G0.out.cell q2 (by simp), G0.out.cell e0 (by simp), G0.out.cell e1 (by simp), G0.out.cell e2 (by simp), G0.out.cell e3 (by simp), G0.out.cell e4 (by simp)⟩ (fun _ => ?_)
        try simp only [Act.put, List.setIfInBounds_toArray, List.set_cons_zero, List.set_cons_succ]
        refine ht_one (o := ?_) ?_ ?_ (fun K hK => ?_)
        rotate_left 1
        (focus ((simp only [List.getElem?_toArray, List.getElem?_cons_succ, List.getElem?_cons_zero]); (try rfl); done))
        focus (rfl)
        clear r0 r1 r2 r3 r4 r5 r6 r7
        go_simp
        refine (with_any st m env first lt ls la bl j ne elp a c es win cap 1 kk x e y0 (HP.out.fr0 G0.out) (HV.out.fr0 G0.out) (by omega) (by omega) (HQ3.out _ (HFB.out.trans0 G0.out)) (by omega) HX.out (HSE.out _ (HFB.out.trans0 G0.out))).mono ?_
        rintro _ y1 ⟨m', env', ne', rfl, hpc, hen, hf⟩
        have P1 := Lib.hid hpc
        have E1 := Lib.hid hen
        have G1 := Lib.hid (G0.out.trans0 hf)
        clear hpc hen hf
        refine hK.out _ _ ⟨G1.out.cell q0 (by simp), G1.out.cell q1 (by simp), G1.out.cell q2 (by simp), G1.out.cell e0 (by simp), G1.out.cell e1 (by simp), G1.out.cell e2 (by simp), G1.out.cell e3 (by simp), G1.out.cell e4 (by simp)⟩ (fun _ => ?_)
        try simp only [Act.put, List.setIfInBounds_toArray, List.set_cons_zero, List.set_cons_succ]
        refine ht_one (o := ?_) ?_ ?_ (fun K hK => ?_)
        rotate_left 1
        (focus ((simp only [List.getElem?_toArray, List.getElem?_cons_succ, List.getElem?_cons_zero]); (try rfl); done))
        focus (rfl)
        have BR1 := Lib.hid (BR.out.fr G1.out (by simp))
        have r0 := BR1.out.cell_at (o := 0) rfl
        have r1 := BR1.out.cell_at (o := 1) rfl
        have r2 := BR1.out.cell_at (o := 2) rfl
        have r3 := BR1.out.cell_at (o := 3) rfl
        have r4 := BR1.out.cell_at (o := 4) rfl
        have r5 := BR1.out.cell_at (o := 5) rfl
        have r6 := BR1.out.cell_at (o := 6) rfl
        have r7 := BR1.out.cell_at (o := 7) rfl
        have hfz := BR1.out.thawed
        go_simp
        obtain ⟨ft, hft⟩ : ∃ z, z = (if j = 0 then e.time else first) := ⟨_, rfl⟩
        rw [← hft]
        have HFT := Lib.hid hft
        clear hft
        have hs := eight_sets BR1.out (.int .i64 1) (.pointer m') (.pointer env') (.int .i64 ft) (.int .i64 e.time) (.int .i64 e.seq) (.int .i64 0) (.bool false)
        have hrb : qb ∉ [rb] ∧ eb ∉ [rb] := by have := HRB.out; simp; omega
        refine hK.out _ _ ⟨hs.2.cell (G1.out.cell q0 (by simp)) hrb.1, hs.2.cell (G1.out.cell q1 (by simp)) hrb.1, hs.2.cell (G1.out.cell q2 (by simp)) hrb.1, hs.2.cell (G1.out.cell e0 (by simp)) hrb.2, hs.2.cell (G1.out.cell e1 (by simp)) hrb.2, hs.2.cell (G1.out.cell e2 (by simp)) hrb.2, hs.2.cell (G1.out.cell e3 (by simp)) hrb.2, hs.2.cell (G1.out.cell e4 (by simp)) hrb.2⟩ (fun _ => ?_)
        try simp only [Act.put, List.setIfInBounds_toArray, List.set_cons_zero, List.set_cons_succ]
        refine ht_done_np ?_
        have HP2 : Hid (PC (((((((((y1.setCell ⟨rb, 0, none⟩ (.int .i64 1)).setCell ⟨rb, 1, none⟩ (.pointer m')).setCell ⟨rb, 2, none⟩ (.pointer env')).setCell ⟨rb, 3, none⟩ (.int .i64 ft)).setCell ⟨rb, 4, none⟩ (.int .i64 e.time)).setCell ⟨rb, 5, none⟩ (.int .i64 e.seq)).setCell ⟨rb, 6, none⟩ (.int .i64 0)).setCell ⟨rb, 7, none⟩ (.bool false))) m' (j + 1) kk) := Lib.hid (P1.out.frx hs.2 BR1.out rfl)
        have hch := E1.out.ch (HV.out.fr0 G1.out)
        have HC2 := Lib.hid (hch.1.frx hs.2 BR1.out rfl)
        have HNE2 := Lib.hid hch.2
        have HS := Lib.hid hs
        have HFT2 : Hid (ft = x0.time) := Lib.hid (by
          rw [HFT.out]
          by_cases h0 : j = 0
          · rw [if_pos h0]
            subst h0
            have := HX00.out.symm.trans HXE.out
            cases this; rfl
          · rw [if_neg h0]; exact (HFI.out (by omega)).2.1)
        clear hs hch hrb r0 r1 r2 r3 r4 r5 r6 r7 q0 q1 q2 e0 e1 e2 e3 e4 hfz
        go_wp2_with fail
        go_roundw
        case rel => exact ⟨j + 1, ne', 1, m', env', ft, e.time, e.seq, 0, false, kk, by omega, by go_num, HS.out.1, HP2.out, fun _ => ⟨rfl, HFT2.out, rfl, rfl, rfl⟩, HC2.out, by have := HNE2.out; omega, HF.out.same (G1.out.of_nil.same HS.out.2)⟩
        case measure => simp [intOf]; omega
      · obtain rfl : j = xs.length := by omega
        obtain ⟨rfl, rfl, rfl, rfl, rfl⟩ := HFI.out (by have := HX0.out; omega)
        clear HFI
        have BAr := Lib.hid (BAR.out.fr (G2.out.of_nil.same HF.out) (by have := (BA.out.fr HW3.out (by simp)).lt; have := HSZ.out; simp; omega))
        have a1 := BAr.out.cell_at (o := 1) rfl
        have a2 := BAr.out.cell_at (o := 2) rfl
        obtain ⟨cc, hcc⟩ : ∃ q, q = n2 % 8 := ⟨_, rfl⟩
        have hc1 : 0 ≤ cc ∧ cc ≤ 7 := by omega
        have hand2 : bits .and .i64 n2 7 = cc := by rw [hcc]; exact and7 n2
        clear hcc
        go_upto_region 11 with (fail)
        go_quiet (fail)
        rename Nat => q11
        obtain ⟨wd, hwd⟩ : ∃ W, W = wr.drewN q11 := ⟨_, rfl⟩
        have HFD : Hid (Fr [] wr wd) := Lib.hid (by rw [hwd]; exact (Fr.refl _ _).drewN _)
        rw [← hwd]
        clear hwd a1 a2
        have HFW : Hid (Fr [] w3 wd) := Lib.hid (HFB.out.trans0 HFD.out)
        have BQd := Lib.hid (BQr.out.fr HFD.out (by simp))
        have BRd := Lib.hid (BR.out.fr HFD.out (by simp))
        have HPd := Lib.hid (HP.out.fr0 HFD.out)
        have HFE : Hid (Fr [] w wd) := Lib.hid (FA.out.trans0 ((HW3.out.trans0 HFW.out)))
        obtain ⟨qo1, qo2, rfl⟩ := (HQ3.out _ HFW.out).rec_addr El.len (by omega) HX.out
        have q0 := BQd.out.cell_at (o := 0) rfl
        have q1 := BQd.out.cell_at (o := 1) rfl
        have q2 := BQd.out.cell_at (o := 2) rfl
        go_upto_region 12 with (fail)
        go_wp2_with fail
        go_loopw [14, 15] (fun v14 v15 wz => ∃ i : Nat, kk + 1 ≤ i ∧ i ≤ es.length ∧ v15 = .int .i64 i ∧ v14 = .bool (lastUp es (kk + 1) i) ∧ wz = wd) (fun _ v15 _ => es.length - (intOf v15).toNat)
        case atStart => exact ⟨kk + 1, Nat.le_refl _, by omega, by go_num, by unfold lastUp; rw [Nat.sub_self]; rfl, rfl⟩
        case round =>
          obtain ⟨i, hi1, hi2, rfl, rfl, hwz⟩ := hrel
          have hwz2 := hwz.symm
          clear hwz
          subst hwz2
          by_cases hil : i < es.length
          · obtain ⟨y, hy⟩ : ∃ e, es[i]? = some e := ⟨_, List.getElem?_eq_getElem hil⟩
            have xn := (HQ3.out _ HFW.out).rec El.len hy (k := 2) rfl
            have HLG := Lib.hid (lastUp_go (s := kk + 1) (by omega) hy)
            obtain ⟨lb, hlb⟩ : ∃ b, b = lastUp es (kk + 1) i := ⟨_, rfl⟩
            rw [← hlb] at HLG ⊢
            have hiI : (i : Int) < (es.length : Int) := by omega
            have hi0 : 0 ≤ (i : Int) := by omega
            clear hlb hy
            cases lb with
            | true =>
              go_wp2_with fail
              go_roundw
              case rel => exact ⟨i + 1, by omega, by omega, by go_num, by rw [HLG.out]; rfl, by first | rfl | trivial⟩
              case measure => simp [intOf]; omega
            | false =>
              go_wp2_with fail
              go_roundw
              case rel => exact ⟨i + 1, by omega, by omega, by go_num, by rw [HLG.out]; rfl, by first | rfl | trivial⟩
              case measure => simp [intOf]; omega
          · obtain rfl : i = es.length := by omega
            have xm := (HQ3.out _ HFW.out).rec El.len HX.out (k := 4) rfl
            have hkI : (kk : Int) < (es.length : Int) := by omega
            have hk0 : 0 ≤ (kk : Int) := by omega
            obtain ⟨ll, hll⟩ : ∃ b, lastUp es (kk + 1) es.length = b := ⟨_, rfl⟩
            have HLL : Hid (decide (nextOf es (kk + 1) < 0) = ll) := Lib.hid (by rw [next_all (by omega), ← hll, lastUp_end (by omega)])
            rw [hll]
            obtain ⟨ov, hov⟩ : ∃ b, decide (win < tt - x0.time) = b := ⟨_, rfl⟩
            have HOV : Hid (ov = (decide (1 ≤ xs.length) && decide (win < tt - x0.time))) := Lib.hid (by rw [hov, decide_eq_true (by have := HX0.out; omega)]; rfl)
            obtain ⟨fl, hfl⟩ : ∃ b, decide (x.mx ≤ cc) = b := ⟨_, rfl⟩
            have HNC : Hid ((!decide (cc < x.mx)) = fl) := Lib.hid (by rw [← hfl]; by_cases h : cc < x.mx <;> simp [h] <;> omega)
            clear hll
            obtain ⟨eb, eo, rfl⟩ := HEV.out.view.reads.rec_addr Ev.len (by omega) HX00.out
            have e2 := (HEV.out.view.reads.fr0 HFW.out).rec Ev.len HX00.out (k := 2) rfl
            rw [Nat.zero_mul, Nat.add_zero] at e2
            have r0 := BRd.out.cell_at (o := 0) rfl
            have r1 := BRd.out.cell_at (o := 1) rfl
            have r2 := BRd.out.cell_at (o := 2) rfl
            have r3 := BRd.out.cell_at (o := 3) rfl
            have r4 := BRd.out.cell_at (o := 4) rfl
            have r5 := BRd.out.cell_at (o := 5) rfl
            have r6 := BRd.out.cell_at (o := 6) rfl
            have r7 := BRd.out.cell_at (o := 7) rfl
            have hsub : IntKind.i64.wrap (tt - x0.time) = tt - x0.time := IntWalk.i64_in _ (by omega)
            have hoo : (ov == ov) = true := by simp
            have hlo : (ll == ll) = true := by simp
            have hxI : (0 : Int) < (xs.length : Int) := by have := HX0.out; omega
            have hx1 : 0 < xs.length := by have := HX0.out; omega
            cases fl with
            | true =>
              have HD1 : Hid (ll = (!decide (cc < x.mx) && (false || decide (nextOf es (kk + 1) < 0)))) := Lib.hid (by rw [HNC.out, HLL.out]; rfl)
              have HD2 : Hid (true = (!decide (cc < x.mx) && (true || decide (nextOf es (kk + 1) < 0)))) := Lib.hid (by rw [HNC.out]; rfl)
              go_upto_region 18 with (fail)
              clear xm
              refine wp_region_tree_np (fun W => W.cell? ⟨rb, 0, none⟩ = some (.int .i64 1) ∧ W.cell? ⟨rb, 1, none⟩ = some (.pointer m) ∧ W.cell? ⟨rb, 2, none⟩ = some (.pointer env) ∧ W.cell? ⟨rb, 3, none⟩ = some (.int .i64 x0.time) ∧ W.cell? ⟨rb, 4, none⟩ = some (.int .i64 lt) ∧ W.cell? ⟨rb, 5, none⟩ = some (.int .i64 ls) ∧ W.cell? ⟨rb, 6, none⟩ = some (.int .i64 0) ∧ W.cell? ⟨rb, 7, none⟩ = some (.bool false) ∧ W.cell? ⟨qb, 0, none⟩ = some (.slice (some ⟨qo1, qo2, none⟩) es.length c) ∧ W.cell? ⟨qb, 1, none⟩ = some (.int .i64 win) ∧ W.cell? ⟨qb, 2, none⟩ = some (.int .i64 cap) ∧ W.cell? ⟨eb, eo + 2, none⟩ = some (.int .i64 x0.time)) (.one 0 (.on 1 (.on 2 (.on 3 (.on 4 (.on 6 (.on 7 (.on 8 (.on 9 (.on 10 (.on 11 (.on 12 (.on 13 (.on 14 (.one 5 (.on 15 (.on 16 (.on 17 (.on 18 (.on 19 (.on 20 (.on 22 (.one 21 (.on 23 (.on 24 (.on 25 (.on 26 (.on 27 (.on 28 (.on 29 (.on 31 (.on 32 (.on 34 (.one 30 (.one 33 (.on 35 (.on 36 (.on 37 .nil)))))))))))))))))))))))))))))))))))))) (by kernel_rfl) (by kernel_rfl) ⟨r0, r1, r2, r3, r4, r5, r6, r7, q0, q1, q2, e2⟩ ?_
              obtain ⟨y0, hy0⟩ : ∃ W, W = wd.drew := ⟨_, rfl⟩
              have G0 : Hid (Fr [] wd y0) := Lib.hid (by rw [hy0]; exact (Fr.refl _ _).drew)
              rw [← hy0]
              clear hy0
              refine ht_one (o := ?_) ?_ ?_ (fun K hK => ?_)
              rotate_left 1
              (focus ((simp only [List.getElem?_toArray, List.getElem?_cons_succ, List.getElem?_cons_zero]); (try rfl); done))
              focus (rfl)
              go_simp
              refine (awake_any y0).mono ?_
              rintro _ y1 ⟨rfl, hf⟩
              have G1 := Lib.hid (G0.out.trans0 hf)
              clear hf
              refine hK.out _ _ ⟨G1.out.cell r0 (by simp), G1.out.cell r1 (by simp), G1.out.cell r2 (by simp), G1.out.cell r3 (by simp), G1.out.cell r4 (by simp), G1.out.cell r5 (by simp), G1.out.cell r6 (by simp), G1.out.cell r7 (by simp), G1.out.cell q0 (by simp), G1.out.cell q1 (by simp), G1.out.cell q2 (by simp), G1.out.cell e2 (by simp)⟩ (fun _ => ?_)
              try simp only [Act.put, List.setIfInBounds_toArray, List.set_cons_zero, List.set_cons_succ]
              iterate 13 (first | (refine ht_on (o := ?_) (v := ?_) ?_ ?_ (fun w hSw => ?_) ?_; rotate_left 2; (focus ((simp only [List.getElem?_toArray, List.getElem?_cons_succ, List.getElem?_cons_zero]); (try rfl); done)); (focus (rfl)); (focus (((try obtain ⟨s0, s1, s2, s3, s4, s5, s6, s7, s8, s9, s10, s11⟩ := hSw); (try dsimp only at hSw); go_simp; (try with_reducible rfl)); done)); simp only [Act.put, List.setIfInBounds_toArray, List.set_cons_zero, List.set_cons_succ]) | (refine ht_off_light (o := ?_) ?_ ?_ ?_; rotate_left 1; (focus ((simp only [List.getElem?_toArray, List.getElem?_cons_succ, List.getElem?_cons_zero]); (try rfl); done)); (focus (rfl)); simp only [Act.put, List.setIfInBounds_toArray, List.set_cons_zero, List.set_cons_succ]))
              refine ht_one (o := ?_) ?_ ?_ (fun K hK => ?_)
              rotate_left 1
              (focus ((simp only [List.getElem?_toArray, List.getElem?_cons_succ, List.getElem?_cons_zero]); (try rfl); done))
              focus (rfl)
              go_simp
              refine (over_any 1 m env x0.time lt ls 0 false xs.length (some ⟨qo1, qo2, none⟩) es.length c win cap tt y1 (HPd.out.fr0 G1.out).ch (by omega) (by omega) ov HOV.out).mono ?_
              rintro _ y2 ⟨rfl, hf⟩
              have G2 := Lib.hid (G1.out.trans0 hf)
              clear hf
              refine hK.out _ _ ⟨G2.out.cell r0 (by simp), G2.out.cell r1 (by simp), G2.out.cell r2 (by simp), G2.out.cell r3 (by simp), G2.out.cell r4 (by simp), G2.out.cell r5 (by simp), G2.out.cell r6 (by simp), G2.out.cell r7 (by simp), G2.out.cell q0 (by simp), G2.out.cell q1 (by simp), G2.out.cell q2 (by simp), G2.out.cell e2 (by simp)⟩ (fun _ => ?_)
              try simp only [Act.put, List.setIfInBounds_toArray, List.set_cons_zero, List.set_cons_succ]
              iterate 7 (first | (refine ht_on (o := ?_) (v := ?_) ?_ ?_ (fun w hSw => ?_) ?_; rotate_left 2; (focus ((simp only [List.getElem?_toArray, List.getElem?_cons_succ, List.getElem?_cons_zero]); (try rfl); done)); (focus (rfl)); (focus (((try obtain ⟨s0, s1, s2, s3, s4, s5, s6, s7, s8, s9, s10, s11⟩ := hSw); (try dsimp only at hSw); go_simp; (try with_reducible rfl)); done)); simp only [Act.put, List.setIfInBounds_toArray, List.set_cons_zero, List.set_cons_succ]) | (refine ht_off_light (o := ?_) ?_ ?_ ?_; rotate_left 1; (focus ((simp only [List.getElem?_toArray, List.getElem?_cons_succ, List.getElem?_cons_zero]); (try rfl); done)); (focus (rfl)); simp only [Act.put, List.setIfInBounds_toArray, List.set_cons_zero, List.set_cons_succ]))
              refine ht_one (o := ?_) ?_ ?_ (fun K hK => ?_)
              rotate_left 1
              (focus ((simp only [List.getElem?_toArray, List.getElem?_cons_succ, List.getElem?_cons_zero]); (try rfl); done))
              focus (rfl)
              go_simp
              refine (dead_some 1 m env x0.time lt ls 0 false xs.length kk x es (some ⟨qo1, qo2, none⟩) c win cap cc y2 (HPd.out.fr0 G2.out) (by omega) (HQ3.out _ (HFW.out.trans0 G2.out)) (by omega) HX.out ll HD1.out).mono ?_
              rintro _ y3 ⟨rfl, hf⟩
              have G3 := Lib.hid (G2.out.trans0 hf)
              clear hf
              refine hK.out _ _ ⟨G3.out.cell r0 (by simp), G3.out.cell r1 (by simp), G3.out.cell r2 (by simp), G3.out.cell r3 (by simp), G3.out.cell r4 (by simp), G3.out.cell r5 (by simp), G3.out.cell r6 (by simp), G3.out.cell r7 (by simp), G3.out.cell q0 (by simp), G3.out.cell q1 (by simp), G3.out.cell q2 (by simp), G3.out.cell e2 (by simp)⟩ (fun _ => ?_)
              try simp only [Act.put, List.setIfInBounds_toArray, List.set_cons_zero, List.set_cons_succ]
              iterate 10 (first | (refine ht_on (o := ?_) (v := ?_) ?_ ?_ (fun w hSw => ?_) ?_; rotate_left 2; (focus ((simp only [List.getElem?_toArray, List.getElem?_cons_succ, List.getElem?_cons_zero]); (try rfl); done)); (focus (rfl)); (focus (((try obtain ⟨s0, s1, s2, s3, s4, s5, s6, s7, s8, s9, s10, s11⟩ := hSw); (try dsimp only at hSw); go_simp; (try with_reducible rfl)); done)); simp only [Act.put, List.setIfInBounds_toArray, List.set_cons_zero, List.set_cons_succ]) | (refine ht_off_light (o := ?_) ?_ ?_ ?_; rotate_left 1; (focus ((simp only [List.getElem?_toArray, List.getElem?_cons_succ, List.getElem?_cons_zero]); (try rfl); done)); (focus (rfl)); simp only [Act.put, List.setIfInBounds_toArray, List.set_cons_zero, List.set_cons_succ]))
              refine ht_one (o := ?_) ?_ ?_ (fun K hK => ?_)
              rotate_left 1
              (focus ((simp only [List.getElem?_toArray, List.getElem?_cons_succ, List.getElem?_cons_zero]); (try rfl); done))
              focus (rfl)
              go_simp
              refine (block_any 1 m env x0.time lt ls 0 false y3).mono ?_
              rintro _ y4 ⟨rfl, hf⟩
              have G4 := Lib.hid (G3.out.trans0 hf)
              clear hf
              refine hK.out _ _ ⟨G4.out.cell r0 (by simp), G4.out.cell r1 (by simp), G4.out.cell r2 (by simp), G4.out.cell r3 (by simp), G4.out.cell r4 (by simp), G4.out.cell r5 (by simp), G4.out.cell r6 (by simp), G4.out.cell r7 (by simp), G4.out.cell q0 (by simp), G4.out.cell q1 (by simp), G4.out.cell q2 (by simp), G4.out.cell e2 (by simp)⟩ (fun _ => ?_)
              try simp only [Act.put, List.setIfInBounds_toArray, List.set_cons_zero, List.set_cons_succ]
              refine ht_one (o := ?_) ?_ ?_ (fun K hK => ?_)
              rotate_left 1
              (focus ((simp only [List.getElem?_toArray, List.getElem?_cons_succ, List.getElem?_cons_zero]); (try rfl); done))
              focus (rfl)
              go_simp
              refine (dead_some 1 m env x0.time lt ls 0 true xs.length kk x es (some ⟨qo1, qo2, none⟩) c win cap cc y4 (HPd.out.fr0 G4.out) (by omega) (HQ3.out _ (HFW.out.trans0 G4.out)) (by omega) HX.out true HD2.out).mono ?_
              rintro _ y5 ⟨rfl, hf⟩
              have G5 := Lib.hid (G4.out.trans0 hf)
              clear hf
              refine hK.out _ _ ⟨G5.out.cell r0 (by simp), G5.out.cell r1 (by simp), G5.out.cell r2 (by simp), G5.out.cell r3 (by simp), G5.out.cell r4 (by simp), G5.out.cell r5 (by simp), G5.out.cell r6 (by simp), G5.out.cell r7 (by simp), G5.out.cell q0 (by simp), G5.out.cell q1 (by simp), G5.out.cell q2 (by simp), G5.out.cell e2 (by simp)⟩ (fun _ => ?_)
              try simp only [Act.put, List.setIfInBounds_toArray, List.set_cons_zero, List.set_cons_succ]
              iterate 3 (first | (refine ht_on (o := ?_) (v := ?_) ?_ ?_ (fun w hSw => ?_) ?_; rotate_left 2; (focus ((simp only [List.getElem?_toArray, List.getElem?_cons_succ, List.getElem?_cons_zero]); (try rfl); done)); (focus (rfl)); (focus (((try obtain ⟨s0, s1, s2, s3, s4, s5, s6, s7, s8, s9, s10, s11⟩ := hSw); (try dsimp only at hSw); go_simp; (try with_reducible rfl)); done)); simp only [Act.put, List.setIfInBounds_toArray, List.set_cons_zero, List.set_cons_succ]) | (refine ht_off_light (o := ?_) ?_ ?_ ?_; rotate_left 1; (focus ((simp only [List.getElem?_toArray, List.getElem?_cons_succ, List.getElem?_cons_zero]); (try rfl); done)); (focus (rfl)); simp only [Act.put, List.setIfInBounds_toArray, List.set_cons_zero, List.set_cons_succ]))
              refine ht_done_np ?_
              go_wp2_with fail
              go_ret
              exact ⟨rfl, HFE.out.trans0 G5.out⟩
            | false =>
              have HD1 : Hid (false = (!decide (cc < x.mx) && (false || decide (nextOf es (kk + 1) < 0)))) := Lib.hid (by rw [HNC.out]; rfl)
              have HD2 : Hid (false = (!decide (cc < x.mx) && (true || decide (nextOf es (kk + 1) < 0)))) := Lib.hid (by rw [HNC.out]; rfl)
              go_upto_region 18 with (fail)
              clear xm
              refine wp_region_tree_np (fun W => W.cell? ⟨rb, 0, none⟩ = some (.int .i64 1) ∧ W.cell? ⟨rb, 1, none⟩ = some (.pointer m) ∧ W.cell? ⟨rb, 2, none⟩ = some (.pointer env) ∧ W.cell? ⟨rb, 3, none⟩ = some (.int .i64 x0.time) ∧ W.cell? ⟨rb, 4, none⟩ = some (.int .i64 lt) ∧ W.cell? ⟨rb, 5, none⟩ = some (.int .i64 ls) ∧ W.cell? ⟨rb, 6, none⟩ = some (.int .i64 0) ∧ W.cell? ⟨rb, 7, none⟩ = some (.bool false) ∧ W.cell? ⟨qb, 0, none⟩ = some (.slice (some ⟨qo1, qo2, none⟩) es.length c) ∧ W.cell? ⟨qb, 1, none⟩ = some (.int .i64 win) ∧ W.cell? ⟨qb, 2, none⟩ = some (.int .i64 cap) ∧ W.cell? ⟨eb, eo + 2, none⟩ = some (.int .i64 x0.time)) (.one 0 (.on 1 (.on 2 (.on 3 (.on 4 (.on 6 (.on 7 (.on 8 (.on 9 (.on 10 (.on 11 (.on 12 (.on 13 (.on 14 (.one 5 (.on 15 (.on 16 (.on 17 (.on 18 (.on 19 (.on 20 (.on 22 (.one 21 (.on 23 (.on 24 (.on 25 (.on 26 (.on 27 (.on 28 (.on 29 (.on 31 (.on 32 (.on 34 (.one 30 (.one 33 (.on 35 (.on 36 (.on 37 .nil)))))))))))))))))))))))))))))))))))))) (by kernel_rfl) (by kernel_rfl) ⟨r0, r1, r2, r3, r4, r5, r6, r7, q0, q1, q2, e2⟩ ?_
              obtain ⟨y0, hy0⟩ : ∃ W, W = wd.drew := ⟨_, rfl⟩
              have G0 : Hid (Fr [] wd y0) := Lib.hid (by rw [hy0]; exact (Fr.refl _ _).drew)
              rw [← hy0]
              clear hy0
              refine ht_one (o := ?_) ?_ ?_ (fun K hK => ?_)
              rotate_left 1
              (focus ((simp only [List.getElem?_toArray, List.getElem?_cons_succ, List.getElem?_cons_zero]); (try rfl); done))
              focus (rfl)
              go_simp
              refine (awake_any y0).mono ?_
              rintro _ y1 ⟨rfl, hf⟩
              have G1 := Lib.hid (G0.out.trans0 hf)
              clear hf
              refine hK.out _ _ ⟨G1.out.cell r0 (by simp), G1.out.cell r1 (by simp), G1.out.cell r2 (by simp), G1.out.cell r3 (by simp), G1.out.cell r4 (by simp), G1.out.cell r5 (by simp), G1.out.cell r6 (by simp), G1.out.cell r7 (by simp), G1.out.cell q0 (by simp), G1.out.cell q1 (by simp), G1.out.cell q2 (by simp), G1.out.cell e2 (by simp)⟩ (fun _ => ?_)
              try simp only [Act.put, List.setIfInBounds_toArray, List.set_cons_zero, List.set_cons_succ]
              iterate 13 (first | (refine ht_on (o := ?_) (v := ?_) ?_ ?_ (fun w hSw => ?_) ?_; rotate_left 2; (focus ((simp only [List.getElem?_toArray, List.getElem?_cons_succ, List.getElem?_cons_zero]); (try rfl); done)); (focus (rfl)); (focus (((try obtain ⟨s0, s1, s2, s3, s4, s5, s6, s7, s8, s9, s10, s11⟩ := hSw); (try dsimp only at hSw); go_simp; (try with_reducible rfl)); done)); simp only [Act.put, List.setIfInBounds_toArray, List.set_cons_zero, List.set_cons_succ]) | (refine ht_off_light (o := ?_) ?_ ?_ ?_; rotate_left 1; (focus ((simp only [List.getElem?_toArray, List.getElem?_cons_succ, List.getElem?_cons_zero]); (try rfl); done)); (focus (rfl)); simp only [Act.put, List.setIfInBounds_toArray, List.set_cons_zero, List.set_cons_succ]))
              refine ht_one (o := ?_) ?_ ?_ (fun K hK => ?_)
              rotate_left 1
              (focus ((simp only [List.getElem?_toArray, List.getElem?_cons_succ, List.getElem?_cons_zero]); (try rfl); done))
              focus (rfl)
              go_simp
              refine (over_any 1 m env x0.time lt ls 0 false xs.length (some ⟨qo1, qo2, none⟩) es.length c win cap tt y1 (HPd.out.fr0 G1.out).ch (by omega) (by omega) ov HOV.out).mono ?_
              rintro _ y2 ⟨rfl, hf⟩
              have G2 := Lib.hid (G1.out.trans0 hf)
              clear hf
              refine hK.out _ _ ⟨G2.out.cell r0 (by simp), G2.out.cell r1 (by simp), G2.out.cell r2 (by simp), G2.out.cell r3 (by simp), G2.out.cell r4 (by simp), G2.out.cell r5 (by simp), G2.out.cell r6 (by simp), G2.out.cell r7 (by simp), G2.out.cell q0 (by simp), G2.out.cell q1 (by simp), G2.out.cell q2 (by simp), G2.out.cell e2 (by simp)⟩ (fun _ => ?_)
              try simp only [Act.put, List.setIfInBounds_toArray, List.set_cons_zero, List.set_cons_succ]
              iterate 7 (first | (refine ht_on (o := ?_) (v := ?_) ?_ ?_ (fun w hSw => ?_) ?_; rotate_left 2; (focus ((simp only [List.getElem?_toArray, List.getElem?_cons_succ, List.getElem?_cons_zero]); (try rfl); done)); (focus (rfl)); (focus (((try obtain ⟨s0, s1, s2, s3, s4, s5, s6, s7, s8, s9, s10, s11⟩ := hSw); (try dsimp only at hSw); go_simp; (try with_reducible rfl)); done)); simp only [Act.put, List.setIfInBounds_toArray, List.set_cons_zero, List.set_cons_succ]) | (refine ht_off_light (o := ?_) ?_ ?_ ?_; rotate_left 1; (focus ((simp only [List.getElem?_toArray, List.getElem?_cons_succ, List.getElem?_cons_zero]); (try rfl); done)); (focus (rfl)); simp only [Act.put, List.setIfInBounds_toArray, List.set_cons_zero, List.set_cons_succ]))
              refine ht_one (o := ?_) ?_ ?_ (fun K hK => ?_)
              rotate_left 1
              (focus ((simp only [List.getElem?_toArray, List.getElem?_cons_succ, List.getElem?_cons_zero]); (try rfl); done))
              focus (rfl)
              go_simp
              refine (dead_some 1 m env x0.time lt ls 0 false xs.length kk x es (some ⟨qo1, qo2, none⟩) c win cap cc y2 (HPd.out.fr0 G2.out) (by omega) (HQ3.out _ (HFW.out.trans0 G2.out)) (by omega) HX.out false HD1.out).mono ?_
              rintro _ y3 ⟨rfl, hf⟩
              have G3 := Lib.hid (G2.out.trans0 hf)
              clear hf
              refine hK.out _ _ ⟨G3.out.cell r0 (by simp), G3.out.cell r1 (by simp), G3.out.cell r2 (by simp), G3.out.cell r3 (by simp), G3.out.cell r4 (by simp), G3.out.cell r5 (by simp), G3.out.cell r6 (by simp), G3.out.cell r7 (by simp), G3.out.cell q0 (by simp), G3.out.cell q1 (by simp), G3.out.cell q2 (by simp), G3.out.cell e2 (by simp)⟩ (fun _ => ?_)
              try simp only [Act.put, List.setIfInBounds_toArray, List.set_cons_zero, List.set_cons_succ]
              iterate 10 (first | (refine ht_on (o := ?_) (v := ?_) ?_ ?_ (fun w hSw => ?_) ?_; rotate_left 2; (focus ((simp only [List.getElem?_toArray, List.getElem?_cons_succ, List.getElem?_cons_zero]); (try rfl); done)); (focus (rfl)); (focus (((try obtain ⟨s0, s1, s2, s3, s4, s5, s6, s7, s8, s9, s10, s11⟩ := hSw); (try dsimp only at hSw); go_simp; (try with_reducible rfl)); done)); simp only [Act.put, List.setIfInBounds_toArray, List.set_cons_zero, List.set_cons_succ]) | (refine ht_off_light (o := ?_) ?_ ?_ ?_; rotate_left 1; (focus ((simp only [List.getElem?_toArray, List.getElem?_cons_succ, List.getElem?_cons_zero]); (try rfl); done)); (focus (rfl)); simp only [Act.put, List.setIfInBounds_toArray, List.set_cons_zero, List.set_cons_succ]))
              refine ht_one (o := ?_) ?_ ?_ (fun K hK => ?_)
              rotate_left 1
              (focus ((simp only [List.getElem?_toArray, List.getElem?_cons_succ, List.getElem?_cons_zero]); (try rfl); done))
              focus (rfl)
              go_simp
              refine (block_any 1 m env x0.time lt ls 0 false y3).mono ?_
              rintro _ y4 ⟨rfl, hf⟩
              have G4 := Lib.hid (G3.out.trans0 hf)
              clear hf
              refine hK.out _ _ ⟨G4.out.cell r0 (by simp), G4.out.cell r1 (by simp), G4.out.cell r2 (by simp), G4.out.cell r3 (by simp), G4.out.cell r4 (by simp), G4.out.cell r5 (by simp), G4.out.cell r6 (by simp), G4.out.cell r7 (by simp), G4.out.cell q0 (by simp), G4.out.cell q1 (by simp), G4.out.cell q2 (by simp), G4.out.cell e2 (by simp)⟩ (fun _ => ?_)
              try simp only [Act.put, List.setIfInBounds_toArray, List.set_cons_zero, List.set_cons_succ]
              refine ht_one (o := ?_) ?_ ?_ (fun K hK => ?_)
              rotate_left 1
              (focus ((simp only [List.getElem?_toArray, List.getElem?_cons_succ, List.getElem?_cons_zero]); (try rfl); done))
              focus (rfl)
              go_simp
              refine (dead_some 1 m env x0.time lt ls 0 true xs.length kk x es (some ⟨qo1, qo2, none⟩) c win cap cc y4 (HPd.out.fr0 G4.out) (by omega) (HQ3.out _ (HFW.out.trans0 G4.out)) (by omega) HX.out false HD2.out).mono ?_
              rintro _ y5 ⟨rfl, hf⟩
              have G5 := Lib.hid (G4.out.trans0 hf)
              clear hf
              refine hK.out _ _ ⟨G5.out.cell r0 (by simp), G5.out.cell r1 (by simp), G5.out.cell r2 (by simp), G5.out.cell r3 (by simp), G5.out.cell r4 (by simp), G5.out.cell r5 (by simp), G5.out.cell r6 (by simp), G5.out.cell r7 (by simp), G5.out.cell q0 (by simp), G5.out.cell q1 (by simp), G5.out.cell q2 (by simp), G5.out.cell e2 (by simp)⟩ (fun _ => ?_)
              try simp only [Act.put, List.setIfInBounds_toArray, List.set_cons_zero, List.set_cons_succ]
              iterate 3 (first | (refine ht_on (o := ?_) (v := ?_) ?_ ?_ (fun w hSw => ?_) ?_; rotate_left 2; (focus ((simp only [List.getElem?_toArray, List.getElem?_cons_succ, List.getElem?_cons_zero]); (try rfl); done)); (focus (rfl)); (focus (((try obtain ⟨s0, s1, s2, s3, s4, s5, s6, s7, s8, s9, s10, s11⟩ := hSw); (try dsimp only at hSw); go_simp; (try with_reducible rfl)); done)); simp only [Act.put, List.setIfInBounds_toArray, List.set_cons_zero, List.set_cons_succ]) | (refine ht_off_light (o := ?_) ?_ ?_ ?_; rotate_left 1; (focus ((simp only [List.getElem?_toArray, List.getElem?_cons_succ, List.getElem?_cons_zero]); (try rfl); done)); (focus (rfl)); simp only [Act.put, List.setIfInBounds_toArray, List.set_cons_zero, List.set_cons_succ]))
              refine ht_done_np ?_
              go_wp2_with fail
              go_ret
              exact ⟨rfl, HFE.out.trans0 G5.out⟩
theorem runOver_walk (zs : List Int) (v0 : Value) {w : World} (hr0 : Reads w 1 v0 zs.length (zs.map (Value.int .i64))) (_w0 : ∀ x ∈ zs, (Lit.int .i64 x).wf = true) (hlen : zs.length * 8 ≤ 140737488351232)
    (l : List Ev) (al : Option Addr) (cl : Nat) (hE : Reads w 5 (.slice al l.length cl) l.length (l.flatMap Ev.cells)) (hok : ∀ e ∈ l, EvOk w e) (hll : l.length ≤ maxLen) (n0 n1 n2 : Int) :
    Calls Try.prog 12 #[v0, .slice al l.length cl, .agg #[.int .i64 n0, .int .i64 n1, .int .i64 n2]] w fun e w' => e = .returned (.bool true) ∧ Fr [] w w' := by
  obtain ⟨ap, cp, rfl⟩ : ∃ a c, v0 = .slice a zs.length c := by obtain ⟨_, a, c, h, _⟩ := hr0; exact ⟨a, c, h⟩
  exact runOver_any zs ap cp l al cl n0 n1 n2 w hr0 hlen hE hok hll
end Go.Proofs.Ytcnoaflojojfkab.Rn
