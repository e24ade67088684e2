/- run.Run in memory: Len, Elem, Over, Dead, Block, With. No condition. -/
import Derived.Test.YtcnoaflojojfkabRun
namespace Go.Proofs.Ytcnoaflojojfkab.Rn
open Go.RowKit Go.Proofs.Ytcnoaflojojfkab.Pat Go.Proofs.Ytcnoaflojojfkab.Qry Go.Proofs.Ytcnoaflojojfkab.Evt
set_option linter.unusedVariables false
set_option linter.unusedSimpArgs false
set_option maxRecDepth 100000
/-- a run, as a value -/
def rcells (st : Int) (m env : Option Addr) (first lt ls la : Int) (bl : Bool) : List Value := [.int .i64 st, .pointer m, .pointer env, .int .i64 first, .int .i64 lt, .int .i64 ls, .int .i64 la, .bool bl]
/-- the chain of its pairs: none, or so many, the newest of one element -/
def PC (w : World) (m : Option Addr) (n : Nat) (el : Int) : Prop := (m = none ∧ n = 0) ∨ ∃ mb sq p, m = some ⟨mb, 0, none⟩ ∧ 1 ≤ n ∧ Blk w mb [.int .i64 el, .int .i64 sq, .pointer p, .int .i64 (n : Int)] 145
theorem PC.fr0 {w w' : World} {m : Option Addr} {n : Nat} {el : Int} (h : PC w m n el) (hf : Fr [] w w') : PC w' m n el := by
  rcases h with h | ⟨mb, sq, p, h1, h2, h3⟩
  · exact .inl h
  · exact .inr ⟨mb, sq, p, h1, h2, h3.fr hf (by simp)⟩
theorem PC.ch {w : World} {m : Option Addr} {n : Nat} {el : Int} (h : PC w m n el) : Ch_pair w (.pointer m) n := by
  rcases h with ⟨rfl, h⟩ | ⟨mb, sq, p, rfl, h2, h3⟩
  · exact .inl ⟨rfl, h⟩
  · exact .inr ⟨mb, rfl, h2, h3.cell_at rfl⟩
theorem rlen_any (st : Int) (m env : Option Addr) (first lt ls la : Int) (bl : Bool) (n : Nat) (w : World) (h : Ch_pair w (.pointer m) n) : Calls Try.prog 78 #[.agg #[.int .i64 st, .pointer m, .pointer env, .int .i64 first, .int .i64 lt, .int .i64 ls, .int .i64 la, .bool bl]] w fun e w' => e = .returned (.int .i64 (n : Int)) ∧ Fr [] w w' := by
  have hfa : Fr [] w (w.alloc (.cells (rcells st m env first lt ls la bl).toArray 73)) := (Fr.refl _ _).alloc _
  have H := Lib.hid (h.fr0 hfa)
  clear h
  go_enter Try.func78, Try.ntmps78
  go_wp2_with fail
  refine (len_pair _ n _ H.out).mono ?_
  rintro _ w2 ⟨rfl, rfl⟩
  go_wp2_with fail
  go_ret
  exact ⟨rfl, hfa⟩
theorem elem_none (st : Int) (env : Option Addr) (first lt ls la : Int) (bl : Bool) (w : World) : Calls Try.prog 79 #[.agg #[.int .i64 st, .pointer none, .pointer env, .int .i64 first, .int .i64 lt, .int .i64 ls, .int .i64 la, .bool bl]] w fun e w' => e = .returned (.int .i64 (-1)) ∧ Fr [] w w' := by
  have hfa : Fr [] w (w.alloc (.cells (rcells st none env first lt ls la bl).toArray 73)) := (Fr.refl _ _).alloc _
  go_enter Try.func79, Try.ntmps79
  go_wp2_with fail
  refine (newest_nil _).mono ?_
  rintro _ w2 ⟨rfl, hf⟩
  have F := Lib.hid (hfa.trans0 hf)
  clear hf
  go_wp2_with fail
  go_ret
  exact ⟨rfl, F.out.alloc _⟩
theorem elem_some (st : Int) (m env : Option Addr) (first lt ls la : Int) (bl : Bool) (n : Nat) (el : Int) (w : World) (h : PC w m n el) (hn : 1 ≤ n) : Calls Try.prog 79 #[.agg #[.int .i64 st, .pointer m, .pointer env, .int .i64 first, .int .i64 lt, .int .i64 ls, .int .i64 la, .bool bl]] w fun e w' => e = .returned (.int .i64 el) ∧ Fr [] w w' := by
  rcases h with ⟨_, h⟩ | ⟨mb, sq, p, rfl, _, hB⟩
  · omega
  have hfa : Fr [] w (w.alloc (.cells (rcells st (some ⟨mb, 0, none⟩) env first lt ls la bl).toArray 73)) := (Fr.refl _ _).alloc _
  have H := Lib.hid (hB.fr hfa (by simp))
  clear hB
  go_enter Try.func79, Try.ntmps79
  go_wp2_with fail
  refine (newest_any mb el sq (n : Int) _ (H.out.cell_at (o := 0) rfl) (H.out.cell_at (o := 1) rfl) (H.out.cell_at (o := 3) rfl) (by omega)).mono ?_
  rintro _ w2 ⟨rfl, hf⟩
  have F := Lib.hid (hfa.trans0 hf)
  clear hf
  go_wp2_with fail
  go_ret
  exact ⟨rfl, F.out.alloc _⟩
theorem two_boxes (w : World) (c1 : List Value) (t1 : TypeId) (c2 : List Value) (t2 : TypeId) : ∃ W, W = (w.alloc (.cells c1.toArray t1)).alloc (.cells c2.toArray t2) ∧ Blk W w.heap.size c1 t1 ∧ Blk W (w.heap.size + 1) c2 t2 ∧ Fr [] w W := by
  obtain ⟨h1, h2, h3⟩ := new2 w c1 t1 c2 t2
  exact ⟨_, rfl, h1, h2, h3⟩
set_option maxHeartbeats 1000000 in
theorem over_any (st : Int) (m env : Option Addr) (first lt ls la : Int) (bl : Bool) (n : Nat) (qa : Option Addr) (qn qc : Nat) (win cap t : Int) (w : World) (h : Ch_pair w (.pointer m) n) (ht : 0 ≤ t ∧ t ≤ 1000) (hf0 : 0 ≤ first ∧ first ≤ 1000) (r : Bool) (hr : r = (decide (1 ≤ n) && decide (win < t - first))) :
    Calls Try.prog 46 #[.agg #[.int .i64 st, .pointer m, .pointer env, .int .i64 first, .int .i64 lt, .int .i64 ls, .int .i64 la, .bool bl], .agg #[.slice qa qn qc, .int .i64 win, .int .i64 cap], .int .i64 t] w fun e w' => e = .returned (.bool r) ∧ Fr [] w w' := by
  obtain ⟨w2, hw2, hb1, hb2, hfa⟩ := two_boxes w (rcells st m env first lt ls la bl) 73 [.slice qa qn qc, .int .i64 win, .int .i64 cap] 67
  have B1 := Lib.hid hb1
  have B2 := Lib.hid hb2
  have H := Lib.hid (h.fr0 hfa)
  have HR := Lib.hid hr
  clear hb1 hb2 h hr
  go_enter Try.func46, Try.ntmps46
  go_upto_region 1 with (fail)
  rw [show (w.alloc (.cells #[.int .i64 st, .pointer m, .pointer env, .int .i64 first, .int .i64 lt, .int .i64 ls, .int .i64 la, .bool bl] 73)).alloc (.cells #[.slice qa qn qc, .int .i64 win, .int .i64 cap] 67) = w2 from hw2.symm]
  clear hw2
  have r0 := B1.out.cell_at (o := 0) rfl
  have r1 := B1.out.cell_at (o := 1) rfl
  have r2 := B1.out.cell_at (o := 2) rfl
  have r3 := B1.out.cell_at (o := 3) rfl
  have r4 := B1.out.cell_at (o := 4) rfl
  have r5 := B1.out.cell_at (o := 5) rfl
  have r6 := B1.out.cell_at (o := 6) rfl
  have r7 := B1.out.cell_at (o := 7) rfl
  go_wp2_with fail
  refine (rlen_any st m env first lt ls la bl n w2 H.out).mono ?_
  rintro _ w3 ⟨rfl, hf⟩
  have r3 := (B1.out.fr hf (by simp)).cell_at (o := 3) rfl
  have q1 := (B2.out.fr hf (by simp)).cell_at (o := 1) rfl
  have F3 := Lib.hid (hfa.trans0 hf)
  clear hf r0 r1 r2 r4 r5 r6 r7 B1 B2 H
  by_cases h1 : 1 ≤ n
  · have h1I : (0 : Int) < (n : Int) := by omega
    have HRR : Hid (decide (win < t - first) = r) := Lib.hid (by rw [HR.out]; simp [h1])
    go_wp2_with fail
    go_ret
    exact ⟨ret_bool HRR.out, F3.out⟩
  · have h1I : ¬ ((0 : Int) < (n : Int)) := by omega
    have h1J : decide ((0 : Int) < (n : Int)) = false := decide_eq_false h1I
    have h1K : n = 0 := by omega
    have HRR : Hid (false = r) := Lib.hid (by rw [HR.out]; simp [h1])
    subst h1K
    go_wp2_with fail
    go_ret
    exact ⟨ret_bool HRR.out, F3.out⟩
theorem eight_sets {W : World} {eb : Nat} {t : TypeId} {z0 z1 z2 z3 z4 z5 z6 z7 : Value} (h : Blk W eb [z0, z1, z2, z3, z4, z5, z6, z7] t) (v0 v1 v2 v3 v4 v5 v6 v7 : Value) :
    Blk ((((((((W.setCell ⟨eb, 0, none⟩ v0).setCell ⟨eb, 1, none⟩ v1).setCell ⟨eb, 2, none⟩ v2).setCell ⟨eb, 3, none⟩ v3).setCell ⟨eb, 4, none⟩ v4).setCell ⟨eb, 5, none⟩ v5).setCell ⟨eb, 6, none⟩ v6).setCell ⟨eb, 7, none⟩ v7) eb [v0, v1, v2, v3, v4, v5, v6, v7] t ∧
    Fr [eb] W ((((((((W.setCell ⟨eb, 0, none⟩ v0).setCell ⟨eb, 1, none⟩ v1).setCell ⟨eb, 2, none⟩ v2).setCell ⟨eb, 3, none⟩ v3).setCell ⟨eb, 4, none⟩ v4).setCell ⟨eb, 5, none⟩ v5).setCell ⟨eb, 6, none⟩ v6).setCell ⟨eb, 7, none⟩ v7) :=
  ⟨(((((((h.set 0 v0).set 1 v1).set 2 v2).set 3 v3).set 4 v4).set 5 v5).set 6 v6).set 7 v7, ((((((((Fr.refl [eb] W).set (.inl (by simp)) _).set (.inl (by simp)) _).set (.inl (by simp)) _).set (.inl (by simp)) _).set (.inl (by simp)) _).set (.inl (by simp)) _).set (.inl (by simp)) _).set (.inl (by simp)) _⟩
theorem block_any (st : Int) (m env : Option Addr) (first lt ls la : Int) (bl : Bool) (w : World) : Calls Try.prog 50 #[.agg #[.int .i64 st, .pointer m, .pointer env, .int .i64 first, .int .i64 lt, .int .i64 ls, .int .i64 la, .bool bl]] w fun e w' => e = .returned (.agg #[.int .i64 st, .pointer m, .pointer env, .int .i64 first, .int .i64 lt, .int .i64 ls, .int .i64 la, .bool true]) ∧ Fr [] w w' := by
  obtain ⟨w2, hw2, hb1, hb2, hfa⟩ := two_boxes w (rcells st m env first lt ls la bl) 73 [.int .i64 0, .pointer none, .pointer none, .int .i64 0, .int .i64 0, .int .i64 0, .int .i64 0, .bool false] 73
  have B1 := Lib.hid hb1
  have B2 := Lib.hid hb2
  clear hb1 hb2
  go_enter Try.func50, Try.ntmps50
  go_upto_region 1 with (fail)
  rw [show (w.alloc (.cells #[.int .i64 st, .pointer m, .pointer env, .int .i64 first, .int .i64 lt, .int .i64 ls, .int .i64 la, .bool bl] 73)).alloc (.cells #[.int .i64 0, .pointer none, .pointer none, .int .i64 0, .int .i64 0, .int .i64 0, .int .i64 0, .bool false] 73) = w2 from hw2.symm]
  clear hw2
  have r7 := B1.out.cell_at (o := 7) rfl
  have hfz := B1.out.thawed
  go_upto_region 2 with (fail)
  have B13 := Lib.hid (B1.out.set 7 (.bool true))
  have hf3 : Fr [w.heap.size] w2 (w2.setCell ⟨w.heap.size, 7, none⟩ (.bool true)) := (Fr.refl _ _).set (.inl (by simp)) _
  have B23 := Lib.hid (B2.out.fr hf3 (by simp))
  have F3 := Lib.hid (hfa.trans hf3 (fun b hb => .inr (by simp at hb; omega)))
  obtain ⟨w3, hw3⟩ : ∃ W, W = w2.setCell ⟨w.heap.size, 7, none⟩ (.bool true) := ⟨_, rfl⟩
  rw [← hw3] at B13 B23 F3 ⊢
  clear hw3 hf3 r7 hfz B1 B2 hfa
  have r0 := B13.out.cell_at (o := 0) rfl
  have c0 := B23.out.cell_at (o := 0) rfl
  have r1 := B13.out.cell_at (o := 1) rfl
  have c1 := B23.out.cell_at (o := 1) rfl
  have r2 := B13.out.cell_at (o := 2) rfl
  have c2 := B23.out.cell_at (o := 2) rfl
  have r3 := B13.out.cell_at (o := 3) rfl
  have c3 := B23.out.cell_at (o := 3) rfl
  have r4 := B13.out.cell_at (o := 4) rfl
  have c4 := B23.out.cell_at (o := 4) rfl
  have r5 := B13.out.cell_at (o := 5) rfl
  have c5 := B23.out.cell_at (o := 5) rfl
  have r6 := B13.out.cell_at (o := 6) rfl
  have c6 := B23.out.cell_at (o := 6) rfl
  have r7 := B13.out.cell_at (o := 7) rfl
  have c7 := B23.out.cell_at (o := 7) rfl
  have hfz := B23.out.thawed
  go_wp2_with fail
  try simp only [Exit.inBlock, Exit.then]
  have hs := eight_sets B23.out (.int .i64 st) (.pointer m) (.pointer env) (.int .i64 first) (.int .i64 lt) (.int .i64 ls) (.int .i64 la) (.bool true)
  refine ret_cell hs.1 rfl rfl Try.underlying73 rfl (by kernel_rfl) rfl ?_
  exact ⟨rfl, F3.out.trans hs.2 (fun b hb => .inr (by simp at hb; omega))⟩
/-- what a run's variables are behind a step: one more, or the same -/
def EnvAt (w : World) (env env' : Option Addr) (ne ne' : Nat) (mx : Int) : Prop :=
  (mx = 1 ∧ ne' = ne + 1 ∧ ∃ nb v t k i s a vn vc, env' = some ⟨nb, 0, none⟩ ∧ Blk w nb [.string v, .string t, .string k, .int .i64 i, .int .i64 s, .slice a vn vc, .pointer env, .int .i64 ((ne + 1 : Nat) : Int)] 147) ∨ (mx ≠ 1 ∧ env' = env ∧ ne' = ne)
theorem EnvAt.ch {w : World} {env env' : Option Addr} {ne ne' : Nat} {mx : Int} (h : EnvAt w env env' ne ne' mx) (h0 : Ch_bound w (.pointer env) ne) : Ch_bound w (.pointer env') ne' ∧ ne' ≤ ne + 1 := by
  rcases h with ⟨_, rfl, nb, v, t, k, i, s, a, vn, vc, rfl, hB⟩ | ⟨_, rfl, rfl⟩
  · exact ⟨.inr ⟨nb, rfl, by omega, hB.cell_at rfl⟩, by omega⟩
  · exact ⟨h0, by omega⟩
theorem EnvAt.fr {W W' : World} {env env' : Option Addr} {ne ne' : Nat} {mx : Int} {g : Nat} {cs : List Value} {t : TypeId} {z : Int} (h : EnvAt W env env' ne ne' mx) (hf : Fr [g] W W') (hb : Blk W g cs t) (hz : cs[0]? = some (.int .i64 z)) : EnvAt W' env env' ne ne' mx := by
  rcases h with ⟨h1, h2, nb, v, t, k, i, s, a, vn, vc, h3, hB⟩ | h
  · refine .inl ⟨h1, h2, nb, v, t, k, i, s, a, vn, vc, h3, hB.fr hf ?_⟩
    simp only [List.mem_singleton]
    rintro rfl
    have := hb.inj hB
    rw [this] at hz
    cases hz
  · exact .inr h
theorem EnvAt.fr0 {W W' : World} {env env' : Option Addr} {ne ne' : Nat} {mx : Int} (h : EnvAt W env env' ne ne' mx) (hf : Fr [] W W') : EnvAt W' env env' ne ne' mx := by
  rcases h with ⟨h1, h2, nb, v, t, k, i, s, a, vn, vc, h3, hB⟩ | h
  · exact .inl ⟨h1, h2, nb, v, t, k, i, s, a, vn, vc, h3, hB.fr hf (by simp)⟩
  · exact .inr h
set_option maxHeartbeats 8000000 in
theorem with_any (st : Int) (m env : Option Addr) (first lt ls la : Int) (bl : Bool) (n ne : Nat) (el : Int) (qa : Option Addr) (qc : Nat) (es : List El) (win cap state : Int) (kk : Nat) (x : El) (e : Ev) (w : World)
    (hm : PC w m n el) (hv : Ch_bound w (.pointer env) ne) (hn : n ≤ 1000) (hne : ne ≤ 1000) (hR : Reads w 6 (.slice qa es.length qc) es.length (qcells es)) (hl : es.length ≤ 1000) (hx : es[kk]? = some x) (hs : Sees4 w e) :
    Calls Try.prog 49 #[.agg #[.int .i64 st, .pointer m, .pointer env, .int .i64 first, .int .i64 lt, .int .i64 ls, .int .i64 la, .bool bl], .agg #[.slice qa es.length qc, .int .i64 win, .int .i64 cap], .int .i64 state, .int .i64 kk, .agg #[.string e.typ, .string e.key, .int .i64 e.time, .int .i64 e.seq, .slice e.va e.vn e.vc]] w fun r w' =>
      ∃ (m' env' : Option Addr) (ne' : Nat), r = .returned (.agg #[.int .i64 state, .pointer m', .pointer env', .int .i64 (if n = 0 then e.time else first), .int .i64 e.time, .int .i64 e.seq, .int .i64 0, .bool false]) ∧ PC w' m' (n + 1) kk ∧ EnvAt w' env env' ne ne' x.mx ∧ Fr [] w w' := by
  obtain ⟨wb, hwb⟩ : ∃ W, W = allocs w [.cells #[.int .i64 st, .pointer m, .pointer env, .int .i64 first, .int .i64 lt, .int .i64 ls, .int .i64 la, .bool bl] 73, .cells #[.slice qa es.length qc, .int .i64 win, .int .i64 cap] 67, .cells #[.string e.typ, .string e.key, .int .i64 e.time, .int .i64 e.seq, .slice e.va e.vn e.vc] 79, .cells #[.int .i64 0, .pointer none, .pointer none, .int .i64 0, .int .i64 0, .int .i64 0, .int .i64 0, .bool false] 73] := ⟨_, rfl⟩
  have FB : Hid (Fr [] w wb) := Lib.hid (by rw [hwb]; exact allocs_fr _ _)
  have BR : Hid (Blk wb w.heap.size [.int .i64 st, .pointer m, .pointer env, .int .i64 first, .int .i64 lt, .int .i64 ls, .int .i64 la, .bool bl] 73) := Lib.hid (by rw [hwb]; exact allocs_blk (i := 0) rfl)
  have BQ : Hid (Blk wb (w.heap.size + 1) [.slice qa es.length qc, .int .i64 win, .int .i64 cap] 67) := Lib.hid (by rw [hwb]; exact allocs_blk (i := 1) rfl)
  have BE : Hid (Blk wb (w.heap.size + 2) [.string e.typ, .string e.key, .int .i64 e.time, .int .i64 e.seq, .slice e.va e.vn e.vc] 79) := Lib.hid (by rw [hwb]; exact allocs_blk (i := 2) rfl)
  have BO : Hid (Blk wb (w.heap.size + 3) [.int .i64 0, .pointer none, .pointer none, .int .i64 0, .int .i64 0, .int .i64 0, .int .i64 0, .bool false] 73) := Lib.hid (by rw [hwb]; exact allocs_blk (i := 3) rfl)
  have HSZ : Hid (w.heap.size + 4 ≤ wb.heap.size) := Lib.hid (by have := BO.out.lt; omega)
  have HM := Lib.hid (hm.ch.fr0 FB.out)
  have HV := Lib.hid (hv.fr0 FB.out)
  have HR := Lib.hid (hR.fr0 FB.out)
  have HS : Hid (Sees4 wb e) := Lib.hid (by obtain ⟨h1, vs, h2, h3⟩ := hs; exact ⟨h1, vs, h2, h3.fr0 FB.out⟩)
  have HSF : Hid (∀ W, Fr [] wb W → Sees4 W e) := Lib.hid (fun W hW => by obtain ⟨h1, vs, h2, h3⟩ := HS.out; exact ⟨h1, vs, h2, h3.fr0 hW⟩)
  have HX := Lib.hid hx
  have hkl : kk < es.length := (List.getElem?_eq_some_iff.1 hx).1
  clear hm hv hR hs hx
  obtain ⟨ft, hft⟩ : ∃ z, z = (if n = 0 then e.time else first) := ⟨_, rfl⟩
  rw [← hft]
  have HFT := Lib.hid hft
  clear hft
  go_enter Try.func49, Try.ntmps49
  go_upto_region 1 with (fail)
  rw [show (((w.alloc (.cells #[.int .i64 st, .pointer m, .pointer env, .int .i64 first, .int .i64 lt, .int .i64 ls, .int .i64 la, .bool bl] 73)).alloc (.cells #[.slice qa es.length qc, .int .i64 win, .int .i64 cap] 67)).alloc (.cells #[.string e.typ, .string e.key, .int .i64 e.time, .int .i64 e.seq, .slice e.va e.vn e.vc] 79)).alloc (.cells #[.int .i64 0, .pointer none, .pointer none, .int .i64 0, .int .i64 0, .int .i64 0, .int .i64 0, .bool false] 73) = wb from hwb.symm]
  clear hwb
  have r1 := BR.out.cell_at (o := 1) rfl
  have r2 := BR.out.cell_at (o := 2) rfl
  have r3 := BR.out.cell_at (o := 3) rfl
  have e0 := BE.out.cell_at (o := 0) rfl
  have e1 := BE.out.cell_at (o := 1) rfl
  have e2 := BE.out.cell_at (o := 2) rfl
  have e3 := BE.out.cell_at (o := 3) rfl
  have e4 := BE.out.cell_at (o := 4) rfl
  go_cut [11] (fun v11 wc => ∃ ob mb, v11 = .pointer (some ⟨ob, 0, none⟩) ∧ wb.heap.size ≤ ob ∧ Blk wc ob [.int .i64 state, .pointer (some ⟨mb, 0, none⟩), .pointer env, .int .i64 first, .int .i64 e.time, .int .i64 e.seq, .int .i64 0, .bool false] 73 ∧
    Blk wc mb [.int .i64 kk, .int .i64 e.seq, .pointer m, .int .i64 ((n + 1 : Nat) : Int)] 145 ∧ Fr [] wb wc)
  case first =>
    refine wp_region_tree_np (fun W => W.cell? ⟨w.heap.size, 1, none⟩ = some (.pointer m) ∧ W.cell? ⟨w.heap.size, 2, none⟩ = some (.pointer env) ∧ W.cell? ⟨w.heap.size, 3, none⟩ = some (.int .i64 first) ∧ W.cell? ⟨w.heap.size + 2, 0, none⟩ = some (.string e.typ) ∧ W.cell? ⟨w.heap.size + 2, 1, none⟩ = some (.string e.key) ∧ W.cell? ⟨w.heap.size + 2, 2, none⟩ = some (.int .i64 e.time) ∧ W.cell? ⟨w.heap.size + 2, 3, none⟩ = some (.int .i64 e.seq) ∧ W.cell? ⟨w.heap.size + 2, 4, none⟩ = some (.slice e.va e.vn e.vc)) (.on 0 (.on 1 (.on 2 (.on 3 (.on 4 (.on 5 (.on 6 (.on 8 (.on 9 (.on 10 (.on 11 (.on 12 (.two 7 (.two 13 (.on 14 (.one 15 (.one 16 .nil))) 15 (.one 13 (.on 14 (.one 16 .nil)))) 15 (.one 7 (.one 13 (.on 14 (.one 16 .nil))))))))))))))))) (by kernel_rfl) (by kernel_rfl) ⟨r1, r2, r3, e0, e1, e2, e3, e4⟩ ?_
    obtain ⟨x0, hx0⟩ : ∃ W, W = wb.drew := ⟨_, rfl⟩
    have G0 : Hid (Fr [] wb x0) := Lib.hid (by rw [hx0]; exact (Fr.refl _ _).drew)
    rw [← hx0]
    clear hx0
    iterate 12 (first | (refine ht_on (o := ?_) (v := ?_) ?_ ?_ (fun w hSw => ?_) ?_; rotate_left 2; (focus ((simp only [List.getElem?_toArray, List.getElem?_cons_succ, List.getElem?_cons_zero]); (try rfl); done)); (focus (rfl)); (focus (((try obtain ⟨s0, s1, s2, s3, s4, s5, s6, s7⟩ := hSw); (try dsimp only at hSw); go_simp; (try with_reducible rfl)); done)); simp only [Act.put, List.setIfInBounds_toArray, List.set_cons_zero, List.set_cons_succ]) | (refine ht_off_light (o := ?_) ?_ ?_ ?_; rotate_left 1; (focus ((simp only [List.getElem?_toArray, List.getElem?_cons_succ, List.getElem?_cons_zero]); (try rfl); done)); (focus (rfl)); simp only [Act.put, List.setIfInBounds_toArray, List.set_cons_zero, List.set_cons_succ]))
    refine ht_two (o := ?_) (o' := ?_) ?_ ?_ ?_ ?_ (fun K hK => ?_) (fun K hK => ?_)
    rotate_left 2
    (focus ((simp only [List.getElem?_toArray, List.getElem?_cons_succ, List.getElem?_cons_zero]); (try rfl); done))
    focus (rfl)
    (focus ((simp only [List.getElem?_toArray, List.getElem?_cons_succ, List.getElem?_cons_zero]); (try rfl); done))
    focus (rfl)
    · go_simp
      refine (with_pair (.pointer m) n kk e.seq x0 (HM.out.fr0 G0.out) (by omega)).mono ?_
      rintro _ x1 ⟨mb, rfl, hmb, hf⟩
      have MB1 := Lib.hid hmb
      clear hmb
      have G1 := Lib.hid (G0.out.trans0 hf)
      clear hf
      refine hK.out _ _ ⟨G1.out.cell r1 (by simp), G1.out.cell r2 (by simp), G1.out.cell r3 (by simp), G1.out.cell e0 (by simp), G1.out.cell e1 (by simp), G1.out.cell e2 (by simp), G1.out.cell e3 (by simp), G1.out.cell e4 (by simp)⟩ (fun _ => ?_)
      try simp only [Act.put, List.setIfInBounds_toArray, List.set_cons_zero, List.set_cons_succ]
      refine ht_two (o := ?_) (o' := ?_) ?_ ?_ ?_ ?_ (fun K hK => ?_) (fun K hK => ?_)
      rotate_left 2
      (focus ((simp only [List.getElem?_toArray, List.getElem?_cons_succ, List.getElem?_cons_zero]); (try rfl); done))
      focus (rfl)
      (focus ((simp only [List.getElem?_toArray, List.getElem?_cons_succ, List.getElem?_cons_zero]); (try rfl); done))
      focus (rfl)
      · go_simp
        refine (stamp_any e 0 x1).mono ?_
        rintro _ x2 ⟨rfl, hf⟩
        have MB2 := Lib.hid (MB1.out.fr hf (by simp))
        have G2 := Lib.hid (G1.out.trans0 hf)
        clear hf
        refine hK.out _ _ ⟨G2.out.cell r1 (by simp), G2.out.cell r2 (by simp), G2.out.cell r3 (by simp), G2.out.cell e0 (by simp), G2.out.cell e1 (by simp), G2.out.cell e2 (by simp), G2.out.cell e3 (by simp), G2.out.cell e4 (by simp)⟩ (fun _ => ?_)
        try simp only [Act.put, List.setIfInBounds_toArray, List.set_cons_zero, List.set_cons_succ]
        iterate 1 (first | (refine ht_on (o := ?_) (v := ?_) ?_ ?_ (fun w hSw => ?_) ?_; rotate_left 2; (focus ((simp only [List.getElem?_toArray, List.getElem?_cons_succ, List.getElem?_cons_zero]); (try rfl); done)); (focus (rfl)); (focus (((try obtain ⟨s0, s1, s2, s3, s4, s5, s6, s7⟩ := hSw); (try dsimp only at hSw); go_simp; (try with_reducible rfl)); done)); simp only [Act.put, List.setIfInBounds_toArray, List.set_cons_zero, List.set_cons_succ]) | (refine ht_off_light (o := ?_) ?_ ?_ ?_; rotate_left 1; (focus ((simp only [List.getElem?_toArray, List.getElem?_cons_succ, List.getElem?_cons_zero]); (try rfl); done)); (focus (rfl)); simp only [Act.put, List.setIfInBounds_toArray, List.set_cons_zero, List.set_cons_succ]))
        refine ht_one (o := ?_) ?_ ?_ (fun K hK => ?_)
        rotate_left 1
        (focus ((simp only [List.getElem?_toArray, List.getElem?_cons_succ, List.getElem?_cons_zero]); (try rfl); done))
        focus (rfl)
        go_simp
        obtain ⟨x3, hw⟩ : ∃ W, W = x2.alloc (.cells [.int .i64 0, .pointer none, .pointer none, .int .i64 0, .int .i64 0, .int .i64 0, .int .i64 0, .bool false].toArray 73) := ⟨_, rfl⟩
        rw [show x2.alloc (.cells #[.int .i64 0, .pointer none, .pointer none, .int .i64 0, .int .i64 0, .int .i64 0, .int .i64 0, .bool false] 73) = x3 from hw.symm]
        obtain ⟨ob, hob⟩ : ∃ q, q = x2.heap.size := ⟨_, rfl⟩
        rw [← hob]
        have hf : Fr [] x2 x3 := by rw [hw]; exact (Fr.refl _ _).alloc _
        have OB3 : Hid (Blk x3 ob [.int .i64 0, .pointer none, .pointer none, .int .i64 0, .int .i64 0, .int .i64 0, .int .i64 0, .bool false] 73) := Lib.hid (by rw [hw, hob]; exact Blk.new x2 [.int .i64 0, .pointer none, .pointer none, .int .i64 0, .int .i64 0, .int .i64 0, .int .i64 0, .bool false] _)
        have HOB : Hid (wb.heap.size ≤ ob) := Lib.hid (by rw [hob]; exact G2.out.size)
        have HNE : Hid (mb ≠ ob) := Lib.hid (by have := MB2.out.lt; omega)
        clear hw hob
        have MB3 := Lib.hid (MB2.out.fr hf (by simp))
        have G3 := Lib.hid (G2.out.trans0 hf)
        clear hf
        refine hK.out _ _ ⟨G3.out.cell r1 (by simp), G3.out.cell r2 (by simp), G3.out.cell r3 (by simp), G3.out.cell e0 (by simp), G3.out.cell e1 (by simp), G3.out.cell e2 (by simp), G3.out.cell e3 (by simp), G3.out.cell e4 (by simp)⟩ (fun _ => ?_)
        try simp only [Act.put, List.setIfInBounds_toArray, List.set_cons_zero, List.set_cons_succ]
        refine ht_one (o := ?_) ?_ ?_ (fun K hK => ?_)
        rotate_left 1
        (focus ((simp only [List.getElem?_toArray, List.getElem?_cons_succ, List.getElem?_cons_zero]); (try rfl); done))
        focus (rfl)
        have o0 := OB3.out.cell_at (o := 0) rfl
        have o1 := OB3.out.cell_at (o := 1) rfl
        have o2 := OB3.out.cell_at (o := 2) rfl
        have o3 := OB3.out.cell_at (o := 3) rfl
        have o4 := OB3.out.cell_at (o := 4) rfl
        have o5 := OB3.out.cell_at (o := 5) rfl
        have o6 := OB3.out.cell_at (o := 6) rfl
        have o7 := OB3.out.cell_at (o := 7) rfl
        have hfz := OB3.out.thawed
        go_simp
        have hs := eight_sets OB3.out (.int .i64 state) (.pointer (some ⟨mb, 0, none⟩)) (.pointer env) (.int .i64 first) (.int .i64 e.time) (.int .i64 e.seq) (.int .i64 0) (.bool false)
        have hob : w.heap.size ∉ [ob] ∧ w.heap.size + 2 ∉ [ob] := by have := HOB.out; have := HSZ.out; simp; omega
        refine hK.out _ _ ⟨hs.2.cell (G3.out.cell r1 (by simp)) hob.1, hs.2.cell (G3.out.cell r2 (by simp)) hob.1, hs.2.cell (G3.out.cell r3 (by simp)) hob.1, hs.2.cell (G3.out.cell e0 (by simp)) hob.2, hs.2.cell (G3.out.cell e1 (by simp)) hob.2, hs.2.cell (G3.out.cell e2 (by simp)) hob.2, hs.2.cell (G3.out.cell e3 (by simp)) hob.2, hs.2.cell (G3.out.cell e4 (by simp)) hob.2⟩ (fun _ => ?_)
        try simp only [Act.put, List.setIfInBounds_toArray, List.set_cons_zero, List.set_cons_succ]
        refine ht_done_np ?_
        go_wp2_with fail
        go_meet
        case rel => exact ⟨ob, mb, rfl, HOB.out, hs.1, MB3.out.fr hs.2 (by have := HNE.out; simpa using this), (G3.out.trans hs.2 (fun b hb => .inr (by simp at hb; rw [hb]; exact HOB.out)))⟩
      · go_simp
        obtain ⟨x2, hw⟩ : ∃ W, W = x1.alloc (.cells [.int .i64 0, .pointer none, .pointer none, .int .i64 0, .int .i64 0, .int .i64 0, .int .i64 0, .bool false].toArray 73) := ⟨_, rfl⟩
        rw [show x1.alloc (.cells #[.int .i64 0, .pointer none, .pointer none, .int .i64 0, .int .i64 0, .int .i64 0, .int .i64 0, .bool false] 73) = x2 from hw.symm]
        obtain ⟨ob, hob⟩ : ∃ q, q = x1.heap.size := ⟨_, rfl⟩
        rw [← hob]
        have hf : Fr [] x1 x2 := by rw [hw]; exact (Fr.refl _ _).alloc _
        have OB2 : Hid (Blk x2 ob [.int .i64 0, .pointer none, .pointer none, .int .i64 0, .int .i64 0, .int .i64 0, .int .i64 0, .bool false] 73) := Lib.hid (by rw [hw, hob]; exact Blk.new x1 [.int .i64 0, .pointer none, .pointer none, .int .i64 0, .int .i64 0, .int .i64 0, .int .i64 0, .bool false] _)
        have HOB : Hid (wb.heap.size ≤ ob) := Lib.hid (by rw [hob]; exact G1.out.size)
        have HNE : Hid (mb ≠ ob) := Lib.hid (by have := MB1.out.lt; omega)
        clear hw hob
        have MB2 := Lib.hid (MB1.out.fr hf (by simp))
        have G2 := Lib.hid (G1.out.trans0 hf)
        clear hf
        refine hK.out _ _ ⟨G2.out.cell r1 (by simp), G2.out.cell r2 (by simp), G2.out.cell r3 (by simp), G2.out.cell e0 (by simp), G2.out.cell e1 (by simp), G2.out.cell e2 (by simp), G2.out.cell e3 (by simp), G2.out.cell e4 (by simp)⟩ (fun _ => ?_)
        try simp only [Act.put, List.setIfInBounds_toArray, List.set_cons_zero, List.set_cons_succ]
        refine ht_one (o := ?_) ?_ ?_ (fun K hK => ?_)
        rotate_left 1
        (focus ((simp only [List.getElem?_toArray, List.getElem?_cons_succ, List.getElem?_cons_zero]); (try rfl); done))
        focus (rfl)
        go_simp
        refine (stamp_any e 0 x2).mono ?_
        rintro _ x3 ⟨rfl, hf⟩
        have MB3 := Lib.hid (MB2.out.fr hf (by simp))
        have OB3 := Lib.hid (OB2.out.fr hf (by simp))
        have G3 := Lib.hid (G2.out.trans0 hf)
        clear hf
        refine hK.out _ _ ⟨G3.out.cell r1 (by simp), G3.out.cell r2 (by simp), G3.out.cell r3 (by simp), G3.out.cell e0 (by simp), G3.out.cell e1 (by simp), G3.out.cell e2 (by simp), G3.out.cell e3 (by simp), G3.out.cell e4 (by simp)⟩ (fun _ => ?_)
        try simp only [Act.put, List.setIfInBounds_toArray, List.set_cons_zero, List.set_cons_succ]
        iterate 1 (first | (refine ht_on (o := ?_) (v := ?_) ?_ ?_ (fun w hSw => ?_) ?_; rotate_left 2; (focus ((simp only [List.getElem?_toArray, List.getElem?_cons_succ, List.getElem?_cons_zero]); (try rfl); done)); (focus (rfl)); (focus (((try obtain ⟨s0, s1, s2, s3, s4, s5, s6, s7⟩ := hSw); (try dsimp only at hSw); go_simp; (try with_reducible rfl)); done)); simp only [Act.put, List.setIfInBounds_toArray, List.set_cons_zero, List.set_cons_succ]) | (refine ht_off_light (o := ?_) ?_ ?_ ?_; rotate_left 1; (focus ((simp only [List.getElem?_toArray, List.getElem?_cons_succ, List.getElem?_cons_zero]); (try rfl); done)); (focus (rfl)); simp only [Act.put, List.setIfInBounds_toArray, List.set_cons_zero, List.set_cons_succ]))
        refine ht_one (o := ?_) ?_ ?_ (fun K hK => ?_)
        rotate_left 1
        (focus ((simp only [List.getElem?_toArray, List.getElem?_cons_succ, List.getElem?_cons_zero]); (try rfl); done))
        focus (rfl)
        have o0 := OB3.out.cell_at (o := 0) rfl
        have o1 := OB3.out.cell_at (o := 1) rfl
        have o2 := OB3.out.cell_at (o := 2) rfl
        have o3 := OB3.out.cell_at (o := 3) rfl
        have o4 := OB3.out.cell_at (o := 4) rfl
        have o5 := OB3.out.cell_at (o := 5) rfl
        have o6 := OB3.out.cell_at (o := 6) rfl
        have o7 := OB3.out.cell_at (o := 7) rfl
        have hfz := OB3.out.thawed
        go_simp
        have hs := eight_sets OB3.out (.int .i64 state) (.pointer (some ⟨mb, 0, none⟩)) (.pointer env) (.int .i64 first) (.int .i64 e.time) (.int .i64 e.seq) (.int .i64 0) (.bool false)
        have hob : w.heap.size ∉ [ob] ∧ w.heap.size + 2 ∉ [ob] := by have := HOB.out; have := HSZ.out; simp; omega
        refine hK.out _ _ ⟨hs.2.cell (G3.out.cell r1 (by simp)) hob.1, hs.2.cell (G3.out.cell r2 (by simp)) hob.1, hs.2.cell (G3.out.cell r3 (by simp)) hob.1, hs.2.cell (G3.out.cell e0 (by simp)) hob.2, hs.2.cell (G3.out.cell e1 (by simp)) hob.2, hs.2.cell (G3.out.cell e2 (by simp)) hob.2, hs.2.cell (G3.out.cell e3 (by simp)) hob.2, hs.2.cell (G3.out.cell e4 (by simp)) hob.2⟩ (fun _ => ?_)
        try simp only [Act.put, List.setIfInBounds_toArray, List.set_cons_zero, List.set_cons_succ]
        refine ht_done_np ?_
        go_wp2_with fail
        go_meet
        case rel => exact ⟨ob, mb, rfl, HOB.out, hs.1, MB3.out.fr hs.2 (by have := HNE.out; simpa using this), (G3.out.trans hs.2 (fun b hb => .inr (by simp at hb; rw [hb]; exact HOB.out)))⟩
    · go_simp
      obtain ⟨x1, hw⟩ : ∃ W, W = x0.alloc (.cells [.int .i64 0, .pointer none, .pointer none, .int .i64 0, .int .i64 0, .int .i64 0, .int .i64 0, .bool false].toArray 73) := ⟨_, rfl⟩
      rw [show x0.alloc (.cells #[.int .i64 0, .pointer none, .pointer none, .int .i64 0, .int .i64 0, .int .i64 0, .int .i64 0, .bool false] 73) = x1 from hw.symm]
      obtain ⟨ob, hob⟩ : ∃ q, q = x0.heap.size := ⟨_, rfl⟩
      rw [← hob]
      have hf : Fr [] x0 x1 := by rw [hw]; exact (Fr.refl _ _).alloc _
      have OB1 : Hid (Blk x1 ob [.int .i64 0, .pointer none, .pointer none, .int .i64 0, .int .i64 0, .int .i64 0, .int .i64 0, .bool false] 73) := Lib.hid (by rw [hw, hob]; exact Blk.new x0 [.int .i64 0, .pointer none, .pointer none, .int .i64 0, .int .i64 0, .int .i64 0, .int .i64 0, .bool false] _)
      have HOB : Hid (wb.heap.size ≤ ob) := Lib.hid (by rw [hob]; exact G0.out.size)
      clear hw hob
      have G1 := Lib.hid (G0.out.trans0 hf)
      clear hf
      refine hK.out _ _ ⟨G1.out.cell r1 (by simp), G1.out.cell r2 (by simp), G1.out.cell r3 (by simp), G1.out.cell e0 (by simp), G1.out.cell e1 (by simp), G1.out.cell e2 (by simp), G1.out.cell e3 (by simp), G1.out.cell e4 (by simp)⟩ (fun _ => ?_)
      try simp only [Act.put, List.setIfInBounds_toArray, List.set_cons_zero, List.set_cons_succ]
      refine ht_one (o := ?_) ?_ ?_ (fun K hK => ?_)
      rotate_left 1
      (focus ((simp only [List.getElem?_toArray, List.getElem?_cons_succ, List.getElem?_cons_zero]); (try rfl); done))
      focus (rfl)
      go_simp
      refine (with_pair (.pointer m) n kk e.seq x1 (HM.out.fr0 G1.out) (by omega)).mono ?_
      rintro _ x2 ⟨mb, rfl, hmb, hf⟩
      have MB2 := Lib.hid hmb
      clear hmb
      have HNE : Hid (mb ≠ ob) := Lib.hid (by rintro rfl; have h1 := OB1.out.fr hf (by simp); have h2 := h1.inj MB2.out; simp at h2)
      have OB2 := Lib.hid (OB1.out.fr hf (by simp))
      have G2 := Lib.hid (G1.out.trans0 hf)
      clear hf
      refine hK.out _ _ ⟨G2.out.cell r1 (by simp), G2.out.cell r2 (by simp), G2.out.cell r3 (by simp), G2.out.cell e0 (by simp), G2.out.cell e1 (by simp), G2.out.cell e2 (by simp), G2.out.cell e3 (by simp), G2.out.cell e4 (by simp)⟩ (fun _ => ?_)
      try simp only [Act.put, List.setIfInBounds_toArray, List.set_cons_zero, List.set_cons_succ]
      refine ht_one (o := ?_) ?_ ?_ (fun K hK => ?_)
      rotate_left 1
      (focus ((simp only [List.getElem?_toArray, List.getElem?_cons_succ, List.getElem?_cons_zero]); (try rfl); done))
      focus (rfl)
      go_simp
      refine (stamp_any e 0 x2).mono ?_
      rintro _ x3 ⟨rfl, hf⟩
      have MB3 := Lib.hid (MB2.out.fr hf (by simp))
      have OB3 := Lib.hid (OB2.out.fr hf (by simp))
      have G3 := Lib.hid (G2.out.trans0 hf)
      clear hf
      refine hK.out _ _ ⟨G3.out.cell r1 (by simp), G3.out.cell r2 (by simp), G3.out.cell r3 (by simp), G3.out.cell e0 (by simp), G3.out.cell e1 (by simp), G3.out.cell e2 (by simp), G3.out.cell e3 (by simp), G3.out.cell e4 (by simp)⟩ (fun _ => ?_)
      try simp only [Act.put, List.setIfInBounds_toArray, List.set_cons_zero, List.set_cons_succ]
      iterate 1 (first | (refine ht_on (o := ?_) (v := ?_) ?_ ?_ (fun w hSw => ?_) ?_; rotate_left 2; (focus ((simp only [List.getElem?_toArray, List.getElem?_cons_succ, List.getElem?_cons_zero]); (try rfl); done)); (focus (rfl)); (focus (((try obtain ⟨s0, s1, s2, s3, s4, s5, s6, s7⟩ := hSw); (try dsimp only at hSw); go_simp; (try with_reducible rfl)); done)); simp only [Act.put, List.setIfInBounds_toArray, List.set_cons_zero, List.set_cons_succ]) | (refine ht_off_light (o := ?_) ?_ ?_ ?_; rotate_left 1; (focus ((simp only [List.getElem?_toArray, List.getElem?_cons_succ, List.getElem?_cons_zero]); (try rfl); done)); (focus (rfl)); simp only [Act.put, List.setIfInBounds_toArray, List.set_cons_zero, List.set_cons_succ]))
      refine ht_one (o := ?_) ?_ ?_ (fun K hK => ?_)
      rotate_left 1
      (focus ((simp only [List.getElem?_toArray, List.getElem?_cons_succ, List.getElem?_cons_zero]); (try rfl); done))
      focus (rfl)
      have o0 := OB3.out.cell_at (o := 0) rfl
      have o1 := OB3.out.cell_at (o := 1) rfl
      have o2 := OB3.out.cell_at (o := 2) rfl
      have o3 := OB3.out.cell_at (o := 3) rfl
      have o4 := OB3.out.cell_at (o := 4) rfl
      have o5 := OB3.out.cell_at (o := 5) rfl
      have o6 := OB3.out.cell_at (o := 6) rfl
      have o7 := OB3.out.cell_at (o := 7) rfl
      have hfz := OB3.out.thawed
      go_simp
      have hs := eight_sets OB3.out (.int .i64 state) (.pointer (some ⟨mb, 0, none⟩)) (.pointer env) (.int .i64 first) (.int .i64 e.time) (.int .i64 e.seq) (.int .i64 0) (.bool false)
      have hob : w.heap.size ∉ [ob] ∧ w.heap.size + 2 ∉ [ob] := by have := HOB.out; have := HSZ.out; simp; omega
      refine hK.out _ _ ⟨hs.2.cell (G3.out.cell r1 (by simp)) hob.1, hs.2.cell (G3.out.cell r2 (by simp)) hob.1, hs.2.cell (G3.out.cell r3 (by simp)) hob.1, hs.2.cell (G3.out.cell e0 (by simp)) hob.2, hs.2.cell (G3.out.cell e1 (by simp)) hob.2, hs.2.cell (G3.out.cell e2 (by simp)) hob.2, hs.2.cell (G3.out.cell e3 (by simp)) hob.2, hs.2.cell (G3.out.cell e4 (by simp)) hob.2⟩ (fun _ => ?_)
      try simp only [Act.put, List.setIfInBounds_toArray, List.set_cons_zero, List.set_cons_succ]
      refine ht_done_np ?_
      go_wp2_with fail
      go_meet
      case rel => exact ⟨ob, mb, rfl, HOB.out, hs.1, MB3.out.fr hs.2 (by have := HNE.out; simpa using this), (G3.out.trans hs.2 (fun b hb => .inr (by simp at hb; rw [hb]; exact HOB.out)))⟩
  case rest =>
    rename World => w1
    obtain ⟨ob, mb, rfl, hob, hB, hM, hF⟩ := hcut
    have HOB := Lib.hid hob
    have HB := Lib.hid hB
    have HMB := Lib.hid hM
    have HF := Lib.hid hF
    have BR1 := Lib.hid (BR.out.fr hF (by simp))
    have BO1 := Lib.hid (BO.out.fr hF (by simp))
    clear r1 r2 r3 e0 e1 e2 e3 e4 hob hB hM hF BR BO
    have r0 := BR1.out.cell_at (o := 0) rfl
    have r1 := BR1.out.cell_at (o := 1) rfl
    have r2 := BR1.out.cell_at (o := 2) rfl
    have r3 := BR1.out.cell_at (o := 3) rfl
    have r4 := BR1.out.cell_at (o := 4) rfl
    have r5 := BR1.out.cell_at (o := 5) rfl
    have r6 := BR1.out.cell_at (o := 6) rfl
    have r7 := BR1.out.cell_at (o := 7) rfl
    go_wp2_with fail
    refine (rlen_any st m env first lt ls la bl n w1 (HM.out.fr0 HF.out)).mono ?_
    rintro _ w2 ⟨rfl, hf⟩
    have HB2 := Lib.hid (HB.out.fr hf (by simp))
    have F2 := Lib.hid hf
    have e2 := ((BE.out.fr HF.out (by simp)).fr hf (by simp)).cell_at (o := 2) rfl
    have hfz := HB2.out.thawed
    have o3 := HB2.out.cell_at (o := 3) rfl
    clear r0 r1 r2 r3 r4 r5 r6 r7 hf
    go_upto_if 29 with (fail)
    go_cut [11] (fun v11 wd => v11 = .pointer (some ⟨ob, 0, none⟩) ∧ Blk wd ob [.int .i64 state, .pointer (some ⟨mb, 0, none⟩), .pointer env, .int .i64 ft, .int .i64 e.time, .int .i64 e.seq, .int .i64 0, .bool false] 73 ∧ Fr [ob] w1 wd)
    case first =>
      by_cases h0 : n = 0
      · have h0I : ((n : Int) == 0) = true := by rw [beq_iff_eq]; omega
        have h0J : (n : Int) = 0 := by omega
        have HE0 : Hid (ft = e.time) := Lib.hid (by rw [HFT.out]; exact if_pos h0)
        clear h0
        go_wp2_with fail
        go_meet
        case rel => exact ⟨rfl, by rw [HE0.out]; exact HB2.out.set 3 _, F2.out.of_nil.set (.inl (by simp)) _⟩
      · have h0I : ((n : Int) == 0) = false := by rw [beq_eq_false_iff_ne]; omega
        have h0J : ¬ ((n : Int) = 0) := by omega
        have HE0 : Hid (ft = first) := Lib.hid (by rw [HFT.out]; exact if_neg h0)
        clear h0
        go_wp2_with fail
        go_meet
        case rel => exact ⟨rfl, by rw [HE0.out]; exact HB2.out, F2.out.of_nil⟩
    case rest =>
      rename World => wd
      obtain ⟨rfl, hB, hF⟩ := hcut
      have hmo : mb ∉ [ob] := by
        simp only [List.mem_singleton]
        rintro rfl
        have := HB.out.inj HMB.out
        simp at this
      have MB2 := Lib.hid (HMB.out.fr hF hmo)
      have FW := Lib.hid (HF.out.trans hF (fun b hb => .inr (by simp at hb; rw [hb]; exact HOB.out)))
      have BD := Lib.hid hB
      have HMO := Lib.hid hmo
      have HOB2 : Hid (w.heap.size + 3 ∉ [ob]) := Lib.hid (by have := HOB.out; have := HSZ.out; simp; omega)
      have BO2 := Lib.hid (BO1.out.fr hF HOB2.out)
      have BR2 := Lib.hid (BR1.out.fr hF (by have := HOB.out; have := HSZ.out; simp; omega))
      clear e2 o3 hfz hB hF hmo BO1 BR1 HB HMB HB2 F2
      have F2 := FW
      clear FW
      obtain ⟨b, o, rfl⟩ := HR.out.rec_addr El.len (by omega) HX.out
      have q0 := (BQ.out.fr F2.out (by simp)).cell_at (o := 0) rfl
      have x4 : wd.cell? ⟨b, o + kk * 6 + 4, none⟩ = some (.int .i64 x.mx) := (HR.out.fr0 F2.out).rec El.len HX.out rfl
      have hkI : (kk : Int) < (es.length : Int) := by omega
      have hkJ : decide ((kk : Int) < (es.length : Int)) = true := decide_eq_true hkI
      have hk0 : decide ((0 : Int) ≤ (kk : Int)) = true := decide_eq_true (by omega)
      go_upto_if 50 with (fail)
      go_cut [11] (fun v11 we => ∃ (env' : Option Addr) (ne' : Nat), v11 = .pointer (some ⟨ob, 0, none⟩) ∧ Blk we ob [.int .i64 state, .pointer (some ⟨mb, 0, none⟩), .pointer env', .int .i64 ft, .int .i64 e.time, .int .i64 e.seq, .int .i64 0, .bool false] 73 ∧ EnvAt we env env' ne ne' x.mx ∧ Fr [ob] wd we)
      case first =>
        by_cases hmx : x.mx = 1
        · have hmJ : (x.mx == 1) = true := by rw [beq_iff_eq]; exact hmx
          have HMX := Lib.hid hmx
          clear hmx
          go_upto_region 5 with (fail)
          have r2 := BR2.out.cell_at (o := 2) rfl
          have x0 : wd.cell? ⟨b, o + kk * 6, none⟩ = some (.string x.var) := by have := (HR.out.fr0 F2.out).rec El.len HX.out (k := 0) rfl; simpa using this
          have e0 := (BE.out.fr F2.out (by simp)).cell_at (o := 0) rfl
          have e1 := (BE.out.fr F2.out (by simp)).cell_at (o := 1) rfl
          have e2 := (BE.out.fr F2.out (by simp)).cell_at (o := 2) rfl
          have e3 := (BE.out.fr F2.out (by simp)).cell_at (o := 3) rfl
          have e4 := (BE.out.fr F2.out (by simp)).cell_at (o := 4) rfl
          have HBL : Hid (b < wb.heap.size) := Lib.hid (World.block_lt_of_cell? wb _ (HR.out.rec El.len HX.out (k := 4) rfl))
          refine wp_region_tree_np (fun W => W.cell? ⟨w.heap.size, 2, none⟩ = some (.pointer env) ∧ W.cell? ⟨w.heap.size + 1, 0, none⟩ = some (.slice (some ⟨b, o, none⟩) es.length qc) ∧ W.cell? ⟨b, o + kk * 6, none⟩ = some (.string x.var) ∧ W.cell? ⟨w.heap.size + 2, 0, none⟩ = some (.string e.typ) ∧ W.cell? ⟨w.heap.size + 2, 1, none⟩ = some (.string e.key) ∧ W.cell? ⟨w.heap.size + 2, 2, none⟩ = some (.int .i64 e.time) ∧ W.cell? ⟨w.heap.size + 2, 3, none⟩ = some (.int .i64 e.seq) ∧ W.cell? ⟨w.heap.size + 2, 4, none⟩ = some (.slice e.va e.vn e.vc)) (.on 0 (.on 1 (.on 2 (.on 3 (.on 4 (.on 5 (.on 6 (.on 7 (.on 8 (.one 9 (.on 10 (.one 11 (.on 12 (.one 13 .nil)))))))))))))) (by kernel_rfl) (by kernel_rfl) ⟨r2, q0, x0, e0, e1, e2, e3, e4⟩ ?_
          obtain ⟨y0, hy0⟩ : ∃ W, W = wd.drew := ⟨_, rfl⟩
          have G0 : Hid (Fr [] wd y0) := Lib.hid (by rw [hy0]; exact (Fr.refl _ _).drew)
          rw [← hy0]
          clear hy0
          iterate 9 (first | (refine ht_on (o := ?_) (v := ?_) ?_ ?_ (fun w hSw => ?_) ?_; rotate_left 2; (focus ((simp only [List.getElem?_toArray, List.getElem?_cons_succ, List.getElem?_cons_zero]); (try rfl); done)); (focus (rfl)); (focus (((try obtain ⟨s0, s1, s2, s3, s4, s5, s6, s7⟩ := hSw); (try dsimp only at hSw); go_simp; (try with_reducible rfl)); done)); simp only [Act.put, List.setIfInBounds_toArray, List.set_cons_zero, List.set_cons_succ]) | (refine ht_off_light (o := ?_) ?_ ?_ ?_; rotate_left 1; (focus ((simp only [List.getElem?_toArray, List.getElem?_cons_succ, List.getElem?_cons_zero]); (try rfl); done)); (focus (rfl)); simp only [Act.put, List.setIfInBounds_toArray, List.set_cons_zero, List.set_cons_succ]))
          refine ht_one (o := ?_) ?_ ?_ (fun K hK => ?_)
          rotate_left 1
          (focus ((simp only [List.getElem?_toArray, List.getElem?_cons_succ, List.getElem?_cons_zero]); (try rfl); done))
          focus (rfl)
          go_simp
          refine (evcopy_any e y0 (HSF.out _ (F2.out.trans0 G0.out))).mono ?_
          rintro _ y1 ⟨a', c', rfl, hf⟩
          have G1 := Lib.hid (G0.out.trans0 hf)
          clear hf
          refine hK.out _ _ ⟨G1.out.cell r2 (by simp), G1.out.cell q0 (by simp), G1.out.cell x0 (by simp), G1.out.cell e0 (by simp), G1.out.cell e1 (by simp), G1.out.cell e2 (by simp), G1.out.cell e3 (by simp), G1.out.cell e4 (by simp)⟩ (fun _ => ?_)
          try simp only [Act.put, List.setIfInBounds_toArray, List.set_cons_zero, List.set_cons_succ]
          iterate 1 (first | (refine ht_on (o := ?_) (v := ?_) ?_ ?_ (fun w hSw => ?_) ?_; rotate_left 2; (focus ((simp only [List.getElem?_toArray, List.getElem?_cons_succ, List.getElem?_cons_zero]); (try rfl); done)); (focus (rfl)); (focus (((try obtain ⟨s0, s1, s2, s3, s4, s5, s6, s7⟩ := hSw); (try dsimp only at hSw); go_simp; (try with_reducible rfl)); done)); simp only [Act.put, List.setIfInBounds_toArray, List.set_cons_zero, List.set_cons_succ]) | (refine ht_off_light (o := ?_) ?_ ?_ ?_; rotate_left 1; (focus ((simp only [List.getElem?_toArray, List.getElem?_cons_succ, List.getElem?_cons_zero]); (try rfl); done)); (focus (rfl)); simp only [Act.put, List.setIfInBounds_toArray, List.set_cons_zero, List.set_cons_succ]))
          refine ht_one (o := ?_) ?_ ?_ (fun K hK => ?_)
          rotate_left 1
          (focus ((simp only [List.getElem?_toArray, List.getElem?_cons_succ, List.getElem?_cons_zero]); (try rfl); done))
          focus (rfl)
          go_simp
          refine (with_bound (.pointer env) ne x.var e.typ e.key e.time e.seq a' e.vn c' y1 (HV.out.fr0 (F2.out.trans0 G1.out)) (by omega)).mono ?_
          rintro _ y2 ⟨nb, rfl, hnb, hf⟩
          have NB := Lib.hid hnb
          clear hnb
          have G2 := Lib.hid (G1.out.trans0 hf)
          clear hf
          refine hK.out _ _ ⟨G2.out.cell r2 (by simp), G2.out.cell q0 (by simp), G2.out.cell x0 (by simp), G2.out.cell e0 (by simp), G2.out.cell e1 (by simp), G2.out.cell e2 (by simp), G2.out.cell e3 (by simp), G2.out.cell e4 (by simp)⟩ (fun _ => ?_)
          try simp only [Act.put, List.setIfInBounds_toArray, List.set_cons_zero, List.set_cons_succ]
          iterate 1 (first | (refine ht_on (o := ?_) (v := ?_) ?_ ?_ (fun w hSw => ?_) ?_; rotate_left 2; (focus ((simp only [List.getElem?_toArray, List.getElem?_cons_succ, List.getElem?_cons_zero]); (try rfl); done)); (focus (rfl)); (focus (((try obtain ⟨s0, s1, s2, s3, s4, s5, s6, s7⟩ := hSw); (try dsimp only at hSw); go_simp; (try with_reducible rfl)); done)); simp only [Act.put, List.setIfInBounds_toArray, List.set_cons_zero, List.set_cons_succ]) | (refine ht_off_light (o := ?_) ?_ ?_ ?_; rotate_left 1; (focus ((simp only [List.getElem?_toArray, List.getElem?_cons_succ, List.getElem?_cons_zero]); (try rfl); done)); (focus (rfl)); simp only [Act.put, List.setIfInBounds_toArray, List.set_cons_zero, List.set_cons_succ]))
          refine ht_one (o := ?_) ?_ ?_ (fun K hK => ?_)
          rotate_left 1
          (focus ((simp only [List.getElem?_toArray, List.getElem?_cons_succ, List.getElem?_cons_zero]); (try rfl); done))
          focus (rfl)
          have BDY := Lib.hid (BD.out.fr G2.out (by simp))
          have hfz := BDY.out.thawed
          have o2 := BDY.out.cell_at (o := 2) rfl
          go_simp
          have hs : Fr [ob] y2 (y2.setCell ⟨ob, 2, none⟩ (.pointer (some ⟨nb, 0, none⟩))) := (Fr.refl _ _).set (.inl (by simp)) _
          have hob : w.heap.size ∉ [ob] ∧ w.heap.size + 1 ∉ [ob] ∧ w.heap.size + 2 ∉ [ob] ∧ b ∉ [ob] := by have := HOB.out; have := HSZ.out; have := HBL.out; simp; omega
          refine hK.out _ _ ⟨hs.cell (G2.out.cell r2 (by simp)) hob.1, hs.cell (G2.out.cell q0 (by simp)) hob.2.1, hs.cell (G2.out.cell x0 (by simp)) hob.2.2.2, hs.cell (G2.out.cell e0 (by simp)) hob.2.2.1, hs.cell (G2.out.cell e1 (by simp)) hob.2.2.1, hs.cell (G2.out.cell e2 (by simp)) hob.2.2.1, hs.cell (G2.out.cell e3 (by simp)) hob.2.2.1, hs.cell (G2.out.cell e4 (by simp)) hob.2.2.1⟩ (fun _ => ?_)
          try simp only [Act.put, List.setIfInBounds_toArray, List.set_cons_zero, List.set_cons_succ]
          refine ht_done_np ?_
          go_wp2_with fail
          go_meet
          case rel => exact ⟨_, ne + 1, rfl, BDY.out.set 2 _, EnvAt.fr (.inl ⟨HMX.out, rfl, nb, _, _, _, _, _, _, _, _, rfl, NB.out⟩) hs BDY.out rfl, G2.out.of_nil.same hs⟩
        · have hmJ : (x.mx == 1) = false := by rw [beq_eq_false_iff_ne]; exact hmx
          have HMX := Lib.hid hmx
          clear hmx
          go_wp2_with fail
          go_meet
          case rel => exact ⟨env, ne, rfl, BD.out, .inr ⟨HMX.out, rfl, rfl⟩, Fr.refl _ _⟩
      case rest =>
        rename World => we
        obtain ⟨env', ne', rfl, hB, hE, hF⟩ := hcut
        have BO3 := Lib.hid (BO2.out.fr hF HOB2.out)
        have MB3 := Lib.hid (MB2.out.fr hF HMO.out)
        have F3 := Lib.hid (F2.out.trans hF (fun b hb => .inr (by simp at hb; rw [hb]; exact HOB.out)))
        have HE := Lib.hid hE
        have BD3 := Lib.hid hB
        clear q0 x4 hB hF hE BD BO2
        have o0 := BD3.out.cell_at (o := 0) rfl
        have o1 := BD3.out.cell_at (o := 1) rfl
        have o2 := BD3.out.cell_at (o := 2) rfl
        have o3 := BD3.out.cell_at (o := 3) rfl
        have o4 := BD3.out.cell_at (o := 4) rfl
        have o5 := BD3.out.cell_at (o := 5) rfl
        have o6 := BD3.out.cell_at (o := 6) rfl
        have o7 := BD3.out.cell_at (o := 7) rfl
        have z0 := BO3.out.cell_at (o := 0) rfl
        have z1 := BO3.out.cell_at (o := 1) rfl
        have z2 := BO3.out.cell_at (o := 2) rfl
        have z3 := BO3.out.cell_at (o := 3) rfl
        have z4 := BO3.out.cell_at (o := 4) rfl
        have z5 := BO3.out.cell_at (o := 5) rfl
        have z6 := BO3.out.cell_at (o := 6) rfl
        have z7 := BO3.out.cell_at (o := 7) rfl
        have hfz := BO3.out.thawed
        go_wp2_with fail
        try simp only [Exit.inBlock, Exit.then]
        have hs := eight_sets BO3.out (.int .i64 state) (.pointer (some ⟨mb, 0, none⟩)) (.pointer env') (.int .i64 ft) (.int .i64 e.time) (.int .i64 e.seq) (.int .i64 0) (.bool false)
        have hmr : mb ∉ [w.heap.size + 3] := by
          simp only [List.mem_singleton]
          rintro rfl
          have := BO3.out.inj MB3.out
          simp at this
        refine ret_cell hs.1 rfl rfl Try.underlying73 rfl (by kernel_rfl) rfl ?_
        exact ⟨_, env', ne', rfl, .inr ⟨mb, e.seq, m, rfl, by omega, MB3.out.fr hs.2 hmr⟩, HE.out.fr hs.2 BO3.out rfl, (FB.out.trans0 F3.out).trans hs.2 (fun b hb => .inr (by simp at hb; omega))⟩
end Go.Proofs.Ytcnoaflojojfkab.Rn
