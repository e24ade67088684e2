/- run.Dead, run.Env, run.First. No condition. -/
import Derived.Test.YtcnoaflojojfkabRunList
namespace Go.Proofs.Ytcnoaflojojfkab.Rn
open Go.RowKit Go.Proofs.Ytcnoaflojojfkab.Pat Go.Proofs.Ytcnoaflojojfkab.Qry Go.Proofs.Ytcnoaflojojfkab.Evt
set_option linter.unusedVariables false
set_option linter.unusedSimpArgs false
set_option maxRecDepth 100000
set_option maxHeartbeats 1000000 in
theorem dead_none (st : Int) (env : Option Addr) (first lt ls la : Int) (bl : Bool) (qa : Option Addr) (qn qc : Nat) (win cap cnt : Int) (w : World) :
    Calls Try.prog 47 #[.agg #[.int .i64 st, .pointer none, .pointer env, .int .i64 first, .int .i64 lt, .int .i64 ls, .int .i64 la, .bool bl], .agg #[.slice qa qn qc, .int .i64 win, .int .i64 cap], .int .i64 cnt] w fun e w' => e = .returned (.bool false) ∧ Fr [] w w' := by
  obtain ⟨w2, hw2, hb1, hb2, hfa⟩ := two_boxes w (rcells st none env first lt ls la bl) 73 [.slice qa qn qc, .int .i64 win, .int .i64 cap] 67
  have B1 := Lib.hid hb1
  have F := Lib.hid hfa
  clear hb1 hb2 hfa
  go_enter Try.func47, Try.ntmps47
  go_upto_region 1 with (fail)
  rw [show (w.alloc (.cells #[.int .i64 st, .pointer none, .pointer env, .int .i64 first, .int .i64 lt, .int .i64 ls, .int .i64 la, .bool bl] 73)).alloc (.cells #[.slice qa qn qc, .int .i64 win, .int .i64 cap] 67) = w2 from hw2.symm]
  clear hw2
  have r0 := B1.out.cell_at (o := 0) rfl
  have r1 := B1.out.cell_at (o := 1) rfl
  have r2 := B1.out.cell_at (o := 2) rfl
  have r3 := B1.out.cell_at (o := 3) rfl
  have r4 := B1.out.cell_at (o := 4) rfl
  have r5 := B1.out.cell_at (o := 5) rfl
  have r6 := B1.out.cell_at (o := 6) rfl
  have r7 := B1.out.cell_at (o := 7) rfl
  go_wp2_with fail
  refine (elem_none st env first lt ls la bl w2).mono ?_
  rintro _ w3 ⟨rfl, hf⟩
  have F3 := Lib.hid (F.out.trans0 hf)
  clear hf r0 r1 r2 r3 r4 r5 r6 r7
  go_wp2_with fail
  go_ret
  exact ⟨rfl, F3.out⟩
set_option maxHeartbeats 2000000 in
theorem dead_some (st : Int) (m env : Option Addr) (first lt ls la : Int) (bl : Bool) (n : Nat) (kk : Nat) (x : El) (es : List El) (qa : Option Addr) (qc : Nat) (win cap cnt : Int) (w : World)
    (hm : PC w m n kk) (hn : 1 ≤ n) (hR : Reads w 6 (.slice qa es.length qc) es.length (qcells es)) (hl : es.length ≤ 1000) (hx : es[kk]? = some x) (r : Bool) (hr : r = (!decide (cnt < x.mx) && (bl || decide (nextOf es (kk + 1) < 0)))) :
    Calls Try.prog 47 #[.agg #[.int .i64 st, .pointer m, .pointer env, .int .i64 first, .int .i64 lt, .int .i64 ls, .int .i64 la, .bool bl], .agg #[.slice qa es.length qc, .int .i64 win, .int .i64 cap], .int .i64 cnt] w fun e w' => e = .returned (.bool r) ∧ Fr [] w w' := by
  have hkl : kk < es.length := (List.getElem?_eq_some_iff.1 hx).1
  obtain ⟨w2, hw2, hb1, hb2, hfa⟩ := two_boxes w (rcells st m env first lt ls la bl) 73 [.slice qa es.length qc, .int .i64 win, .int .i64 cap] 67
  have B1 := Lib.hid hb1
  have B2 := Lib.hid hb2
  have F := Lib.hid hfa
  have HM := Lib.hid (hm.fr0 hfa)
  have HR := Lib.hid (hR.fr0 hfa)
  have HX := Lib.hid hx
  have HRR := Lib.hid hr
  clear hb1 hb2 hfa hm hR hx hr
  go_enter Try.func47, Try.ntmps47
  go_upto_region 1 with (fail)
  rw [show (w.alloc (.cells #[.int .i64 st, .pointer m, .pointer env, .int .i64 first, .int .i64 lt, .int .i64 ls, .int .i64 la, .bool bl] 73)).alloc (.cells #[.slice qa es.length qc, .int .i64 win, .int .i64 cap] 67) = w2 from hw2.symm]
  clear hw2
  have r0 := B1.out.cell_at (o := 0) rfl
  have r1 := B1.out.cell_at (o := 1) rfl
  have r2 := B1.out.cell_at (o := 2) rfl
  have r3 := B1.out.cell_at (o := 3) rfl
  have r4 := B1.out.cell_at (o := 4) rfl
  have r5 := B1.out.cell_at (o := 5) rfl
  have r6 := B1.out.cell_at (o := 6) rfl
  have r7 := B1.out.cell_at (o := 7) rfl
  go_wp2_with fail
  refine (elem_some st m env first lt ls la bl n kk w2 HM.out hn).mono ?_
  rintro _ w3 ⟨rfl, hf⟩
  have F3 := Lib.hid (F.out.trans0 hf)
  have R3 := Lib.hid (HR.out.fr0 hf)
  have B13 := Lib.hid (B1.out.fr hf (by simp))
  have B23 := Lib.hid (B2.out.fr hf (by simp))
  clear hf r0 r1 r2 r3 r4 r5 r6 r7 B1 B2 HR HM F
  obtain ⟨b, o, rfl⟩ := R3.out.rec_addr El.len (by omega) HX.out
  have q0 := B23.out.cell_at (o := 0) rfl
  have x4 : w3.cell? ⟨b, o + kk * 6 + 4, none⟩ = some (.int .i64 x.mx) := R3.out.rec El.len HX.out rfl
  have hkI : (kk : Int) < (es.length : Int) := by omega
  have hk0 : ¬ ((kk : Int) < 0) := by omega
  have hk0' : decide ((kk : Int) < 0) = false := decide_eq_false hk0
  have hkJ : decide ((es.length : Int) ≤ (kk : Int)) = false := decide_eq_false (by omega)
  have hkJ' : ¬ ((es.length : Int) ≤ (kk : Int)) := by omega
  by_cases hc : cnt < x.mx
  · have HF : Hid (false = r) := Lib.hid (by rw [HRR.out]; simp [hc])
    go_wp2_with fail
    go_ret
    exact ⟨ret_bool HF.out, F3.out⟩
  · have hc' : decide (cnt < x.mx) = false := decide_eq_false hc
    have r5 := B13.out.cell_at (o := 7) rfl
    have q1 := B23.out.cell_at (o := 1) rfl
    have q2 := B23.out.cell_at (o := 2) rfl
    cases bl with
    | true =>
      have HF : Hid (true = r) := Lib.hid (by rw [HRR.out]; simp [hc])
      go_wp2_with fail
      go_ret
      exact ⟨ret_bool HF.out, F3.out⟩
    | false =>
      have HF : Hid (decide (nextOf es (kk + 1) < 0) = r) := Lib.hid (by rw [HRR.out]; simp [hc])
      go_wp2_with fail
      refine (next_any (some ⟨b, o, none⟩) qc (.int .i64 win) (.int .i64 cap) es (kk : Int) (by omega) w3 R3.out (by omega)).mono ?_
      rintro _ w4 ⟨rfl, hf⟩
      have F4 := Lib.hid (F3.out.trans0 hf)
      clear hf q0 q1 q2 x4 r5
      have hkn : ((kk : Int) + 1).toNat = kk + 1 := by omega
      go_wp2_with fail
      go_ret
      exact ⟨ret_bool HF.out, F4.out⟩
theorem env_any (st : Int) (m env : Option Addr) (first lt ls la : Int) (bl : Bool) (hi : Nat) (xs : List Bd) (w : World) (h : IsBd hi w xs env) (hhi : hi ≤ w.heap.size) (hn : xs.length ≤ 100000) :
    Calls Try.prog 81 #[.agg #[.int .i64 st, .pointer m, .pointer env, .int .i64 first, .int .i64 lt, .int .i64 ls, .int .i64 la, .bool bl]] w fun e w' => (∃ g, e = .returned (.slice (some ⟨g, 0, none⟩) xs.length xs.length) ∧ w.heap.size ≤ g ∧ Blk w' g (xs.reverse.flatMap Bd.cells) 127) ∧ Fr [] w w' := by
  have hfa : Fr [] w (w.alloc (.cells (rcells st m env first lt ls la bl).toArray 73)) := (Fr.refl _ _).alloc _
  have H := Lib.hid (h.fr0 hfa)
  have HF := Lib.hid hfa
  clear h hfa
  go_enter Try.func81, Try.ntmps81
  go_wp2_with fail
  refine (list_bd hi xs env _ H.out (by have := HF.out.size; exact Nat.le_trans hhi this) hn).mono ?_
  rintro _ w2 ⟨⟨g, rfl, hg, hb⟩, hf⟩
  have HG := Lib.hid hg
  have HB := Lib.hid hb
  have F2 := Lib.hid (HF.out.trans0 hf)
  clear hg hb hf
  go_wp2_with fail
  go_ret
  exact ⟨⟨g, rfl, Nat.le_trans HF.out.size HG.out, HB.out⟩, F2.out⟩
theorem first_any (st : Int) (m env : Option Addr) (first lt ls la : Int) (bl : Bool) (w : World) :
    Calls Try.prog 55 #[.agg #[.int .i64 st, .pointer m, .pointer env, .int .i64 first, .int .i64 lt, .int .i64 ls, .int .i64 la, .bool bl]] w fun e w' => e = .returned (.int .i64 first) ∧ Fr [] w w' := by
  go_enter Try.func55, Try.ntmps55
  go_wp2_with fail
  go_ret
  exact ⟨rfl, (Fr.refl _ _).alloc _⟩
end Go.Proofs.Ytcnoaflojojfkab.Rn
