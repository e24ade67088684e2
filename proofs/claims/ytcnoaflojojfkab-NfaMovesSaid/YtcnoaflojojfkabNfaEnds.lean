/- nfa.Nfa in memory: Ends. No condition. -/
import Derived.Test.YtcnoaflojojfkabNfaMovesOf
namespace Go.Proofs.Ytcnoaflojojfkab.Nfa
open Go.RowKit Go.Proofs.Ytcnoaflojojfkab.Pat Go.Proofs.Ytcnoaflojojfkab.Qry
set_option linter.unusedVariables false
set_option linter.unusedSimpArgs false
set_option maxRecDepth 100000
theorem ht_one_off {P : Program} {ops : Array Oper} {Q : Exit → Act → World → Prop} {S : World → Prop} {i : Nat} {r : PT} {a : Act} {w : World} {o : Oper} (ho : ops[i]? = some o) (hw : Region.wanted o (yielded ops a.tmps) = false) (hS : S w)
    (k : wpHT P ops Q S r (a.put o.dst undef) w) : wpHT P ops Q S (.one i r) a w := by
  show wpOp P ops Q i _ a w
  unfold wpOp
  simp only [ho, hw]
  exact ⟨hS, k⟩
set_option maxHeartbeats 2000000 in
theorem ends_nil (w : World) : Calls Try.prog 63 #[.pointer none, .int .i64 0] w fun e w' => e = .returned (.bool false) ∧ Fr [] w w' := by
  go_enter Try.func63, Try.ntmps63
  go_wp2_with fail
  refine (at_nil 0 w).mono ?_
  rintro e w1 ⟨rfl, hf⟩
  have F1 := Lib.hid hf
  clear hf
  go_upto_region 2 with (fail)
  refine wp_region_tree_np (fun W => True) (.on 0 (.on 1 (.on 2 (.on 3 (.on 4 (.on 5 (.on 6 (.on 7 (.on 8 (.on 9 (.on 10 (.on 11 (.on 12 (.one 13 (.on 14 (.on 15 (.on 16 (.on 17 (.on 18 (.on 19 (.on 20 (.on 21 (.on 22 (.on 23 (.on 24 (.on 25 (.on 26 (.on 27 (.on 28 (.on 29 (.on 30 (.on 31 .nil)))))))))))))))))))))))))))))))) (by kernel_rfl) (by kernel_rfl) trivial ?_
  iterate 13 (first | (refine ht_on (o := ?_) (v := ?_) ?_ ?_ (fun w hSw => ?_) ?_; rotate_left 2; (focus ((simp only [List.getElem?_toArray, List.getElem?_cons_succ, List.getElem?_cons_zero]); (try rfl); done)); (focus (rfl)); (focus (((try obtain _ := hSw); (try dsimp only at hSw); go_simp; (try with_reducible rfl)); done)); simp only [Act.put, List.setIfInBounds_toArray, List.set_cons_zero, List.set_cons_succ]) | (refine ht_off_light (o := ?_) ?_ ?_ ?_; rotate_left 1; (focus ((simp only [List.getElem?_toArray, List.getElem?_cons_succ, List.getElem?_cons_zero]); (try rfl); done)); (focus (rfl)); simp only [Act.put, List.setIfInBounds_toArray, List.set_cons_zero, List.set_cons_succ]))
  refine ht_one_off (o := ?_) ?_ ?_ trivial ?_
  rotate_left 1
  (focus ((simp only [List.getElem?_toArray, List.getElem?_cons_succ, List.getElem?_cons_zero]); (try rfl); done))
  focus (rfl)
  simp only [Act.put, List.setIfInBounds_toArray, List.set_cons_zero, List.set_cons_succ]
  iterate 18 (first | (refine ht_on (o := ?_) (v := ?_) ?_ ?_ (fun w hSw => ?_) ?_; rotate_left 2; (focus ((simp only [List.getElem?_toArray, List.getElem?_cons_succ, List.getElem?_cons_zero]); (try rfl); done)); (focus (rfl)); (focus (((try obtain _ := hSw); (try dsimp only at hSw); go_simp; (try with_reducible rfl)); done)); simp only [Act.put, List.setIfInBounds_toArray, List.set_cons_zero, List.set_cons_succ]) | (refine ht_off_light (o := ?_) ?_ ?_ ?_; rotate_left 1; (focus ((simp only [List.getElem?_toArray, List.getElem?_cons_succ, List.getElem?_cons_zero]); (try rfl); done)); (focus (rfl)); simp only [Act.put, List.setIfInBounds_toArray, List.set_cons_zero, List.set_cons_succ]))
  refine ht_done_np ?_
  go_wp2_with fail
  go_ret
  exact ⟨rfl, (F1.out.alloc _).drew⟩
set_option maxHeartbeats 4000000 in
theorem ends_any (nb : Nat) (es : List El) (sts : List Sta) (a : Option Addr) (c : Nat) (win cap : Int) (al : Option Addr) (cl : Nat) (k i : Nat) (s : Sta) (e : El) (w : World) (h : Nf w nb es sts a c win cap al cl) (hk : sts[k]? = some s)
    (hse : s.e = (i : Int)) (hei : es[i]? = some e) (hl : es.length ≤ 4) (lst : Nat) (hlast : lastOf es es.length = (lst : Int)) (r : Bool) (hr : (i = lst ∧ r = decide (e.mn ≤ s.c)) ∨ (i ≠ lst ∧ r = false)) :
    Calls Try.prog 63 #[.pointer (some ⟨nb, 0, none⟩), .int .i64 k] w fun e w' => e = .returned (.bool r) ∧ Fr [] w w' := by
  have HN := Lib.hid h
  have HK := Lib.hid hk
  have HSE := Lib.hid hse
  have HEI := Lib.hid hei
  have HLAST := Lib.hid hlast
  have HR := Lib.hid hr
  clear h hk hse hei hlast hr
  go_enter Try.func63, Try.ntmps63
  go_wp2_with fail
  refine (at_in nb cl al sts k s w (HN.out.top.cell_at (o := 3) rfl) HN.out.stas HK.out).mono ?_
  rintro _ w1 ⟨rfl, hf⟩
  have F1 := Lib.hid hf
  have HN1 := Lib.hid (HN.out.fr0 hf)
  clear hf
  go_upto_region 2 with (fail)
  have B2 := Lib.hid (Blk.new w1 [.int .i64 s.e, .int .i64 s.c] 100)
  have hf2 : Fr [] w1 (w1.alloc (.cells [.int .i64 s.e, .int .i64 s.c].toArray 100)) := (Fr.refl _ _).alloc _
  have HNY := Lib.hid (HN1.out.fr0 hf2.drew)
  have FY := Lib.hid (F1.out.trans0 hf2.drew)
  obtain ⟨sb, hsb⟩ : ∃ q, q = w1.heap.size := ⟨_, rfl⟩
  rw [← hsb] at B2 ⊢
  clear hf2 hsb HN1 F1
  have s0 := (B2.out.cell_at (o := 0) rfl).trans (show some (Value.int .i64 s.e) = some (.int .i64 (i : Int)) by rw [HSE.out])
  have s1 := B2.out.cell_at (o := 1) rfl
  have q0 := HNY.out.top.cell_at (o := 0) rfl
  have q1 := HNY.out.top.cell_at (o := 1) rfl
  have q2 := HNY.out.top.cell_at (o := 2) rfl
  obtain ⟨b, o, rfl⟩ := HNY.out.els.rec_addr El.len (by omega) HEI.out
  have hc3 := HNY.out.els.rec El.len HEI.out (k := 3) rfl
  have hi0' : decide ((0 : Int) ≤ (i : Int)) = true := decide_eq_true (by omega)
  have hi0'' : (0 : Int) ≤ (i : Int) := by omega
  have hiI : (i : Int) < (es.length : Int) := by have := (List.getElem?_eq_some_iff.1 HEI.out).1; omega
  rcases HR.out with ⟨rfl, hr⟩ | ⟨hne, rfl⟩
  · have HRR := Lib.hid hr
    clear hr
    refine wp_region_tree_np (fun W => W.cell? ⟨sb, 0, none⟩ = some (.int .i64 (i : Int)) ∧ W.cell? ⟨sb, 1, none⟩ = some (.int .i64 s.c) ∧ W.cell? ⟨nb, 0, none⟩ = some (.slice (some ⟨b, o, none⟩) es.length c) ∧ W.cell? ⟨nb, 1, none⟩ = some (.int .i64 win) ∧ W.cell? ⟨nb, 2, none⟩ = some (.int .i64 cap) ∧ W.cell? ⟨b, o + i * 6 + 3, none⟩ = some (.int .i64 e.mn)) (.on 0 (.on 1 (.on 2 (.on 3 (.on 4 (.on 5 (.on 6 (.on 7 (.on 8 (.on 9 (.on 10 (.on 11 (.on 12 (.one 13 (.on 14 (.on 15 (.on 16 (.on 17 (.on 18 (.on 19 (.on 20 (.on 21 (.on 22 (.on 23 (.on 24 (.on 25 (.on 26 (.on 27 (.on 28 (.on 29 (.on 30 (.on 31 .nil)))))))))))))))))))))))))))))))) (by kernel_rfl) (by kernel_rfl) ⟨s0, s1, q0, q1, q2, hc3⟩ ?_
    iterate 13 (first | (refine ht_on (o := ?_) (v := ?_) ?_ ?_ (fun w hSw => ?_) ?_; rotate_left 2; (focus ((simp only [List.getElem?_toArray, List.getElem?_cons_succ, List.getElem?_cons_zero]); (try rfl); done)); (focus (rfl)); (focus (((try obtain ⟨p0, p1, p2, p3, p4, p5⟩ := hSw); (try dsimp only at hSw); go_simp; (try with_reducible rfl)); done)); simp only [Act.put, List.setIfInBounds_toArray, List.set_cons_zero, List.set_cons_succ]) | (refine ht_off_light (o := ?_) ?_ ?_ ?_; rotate_left 1; (focus ((simp only [List.getElem?_toArray, List.getElem?_cons_succ, List.getElem?_cons_zero]); (try rfl); done)); (focus (rfl)); simp only [Act.put, List.setIfInBounds_toArray, List.set_cons_zero, List.set_cons_succ]))
    refine ht_one (o := ?_) ?_ ?_ (fun K hK => ?_)
    rotate_left 1
    (focus ((simp only [List.getElem?_toArray, List.getElem?_cons_succ, List.getElem?_cons_zero]); (try rfl); done))
    focus (rfl)
    go_simp
    refine (last_any _ c _ _ es _ HNY.out.els (by omega)).mono ?_
    rintro e w5 ⟨rfl, hf⟩
    rw [HLAST.out]
    have F5 : Hid (Fr [] w w5) := Lib.hid (FY.out.trans0 hf)
    refine hK.out _ _ ⟨hf.cell (by exact s0) (by simp), hf.cell (by exact s1) (by simp), hf.cell (by exact q0) (by simp), hf.cell (by exact q1) (by simp), hf.cell (by exact q2) (by simp), hf.cell (by exact hc3) (by simp)⟩ (fun _ => ?_)
    try simp only [Act.put, List.setIfInBounds_toArray, List.set_cons_zero, List.set_cons_succ]
    clear hf
    iterate 18 (first | (refine ht_on (o := ?_) (v := ?_) ?_ ?_ (fun w hSw => ?_) ?_; rotate_left 2; (focus ((simp only [List.getElem?_toArray, List.getElem?_cons_succ, List.getElem?_cons_zero]); (try rfl); done)); (focus (rfl)); (focus (((try obtain ⟨p0, p1, p2, p3, p4, p5⟩ := hSw); (try dsimp only at hSw); go_simp; (try with_reducible rfl)); done)); simp only [Act.put, List.setIfInBounds_toArray, List.set_cons_zero, List.set_cons_succ]) | (refine ht_off_light (o := ?_) ?_ ?_ ?_; rotate_left 1; (focus ((simp only [List.getElem?_toArray, List.getElem?_cons_succ, List.getElem?_cons_zero]); (try rfl); done)); (focus (rfl)); simp only [Act.put, List.setIfInBounds_toArray, List.set_cons_zero, List.set_cons_succ]))
    refine ht_done_np ?_
    go_wp2_with fail
    go_ret
    exact ⟨ret_bool HRR.out.symm, F5.out⟩
  · have hnI : ((i : Int) == (lst : Int)) = false := by rw [beq_eq_false_iff_ne]; omega
    have hnI2 : ((i : Nat) == lst) = false := by rw [beq_eq_false_iff_ne]; exact hne
    clear hne
    refine wp_region_tree_np (fun W => W.cell? ⟨sb, 0, none⟩ = some (.int .i64 (i : Int)) ∧ W.cell? ⟨sb, 1, none⟩ = some (.int .i64 s.c) ∧ W.cell? ⟨nb, 0, none⟩ = some (.slice (some ⟨b, o, none⟩) es.length c) ∧ W.cell? ⟨nb, 1, none⟩ = some (.int .i64 win) ∧ W.cell? ⟨nb, 2, none⟩ = some (.int .i64 cap) ∧ W.cell? ⟨b, o + i * 6 + 3, none⟩ = some (.int .i64 e.mn)) (.on 0 (.on 1 (.on 2 (.on 3 (.on 4 (.on 5 (.on 6 (.on 7 (.on 8 (.on 9 (.on 10 (.on 11 (.on 12 (.one 13 (.on 14 (.on 15 (.on 16 (.on 17 (.on 18 (.on 19 (.on 20 (.on 21 (.on 22 (.on 23 (.on 24 (.on 25 (.on 26 (.on 27 (.on 28 (.on 29 (.on 30 (.on 31 .nil)))))))))))))))))))))))))))))))) (by kernel_rfl) (by kernel_rfl) ⟨s0, s1, q0, q1, q2, hc3⟩ ?_
    iterate 13 (first | (refine ht_on (o := ?_) (v := ?_) ?_ ?_ (fun w hSw => ?_) ?_; rotate_left 2; (focus ((simp only [List.getElem?_toArray, List.getElem?_cons_succ, List.getElem?_cons_zero]); (try rfl); done)); (focus (rfl)); (focus (((try obtain ⟨p0, p1, p2, p3, p4, p5⟩ := hSw); (try dsimp only at hSw); go_simp; (try with_reducible rfl)); done)); simp only [Act.put, List.setIfInBounds_toArray, List.set_cons_zero, List.set_cons_succ]) | (refine ht_off_light (o := ?_) ?_ ?_ ?_; rotate_left 1; (focus ((simp only [List.getElem?_toArray, List.getElem?_cons_succ, List.getElem?_cons_zero]); (try rfl); done)); (focus (rfl)); simp only [Act.put, List.setIfInBounds_toArray, List.set_cons_zero, List.set_cons_succ]))
    refine ht_one (o := ?_) ?_ ?_ (fun K hK => ?_)
    rotate_left 1
    (focus ((simp only [List.getElem?_toArray, List.getElem?_cons_succ, List.getElem?_cons_zero]); (try rfl); done))
    focus (rfl)
    go_simp
    refine (last_any _ c _ _ es _ HNY.out.els (by omega)).mono ?_
    rintro e w5 ⟨rfl, hf⟩
    rw [HLAST.out]
    have F5 : Hid (Fr [] w w5) := Lib.hid (FY.out.trans0 hf)
    refine hK.out _ _ ⟨hf.cell (by exact s0) (by simp), hf.cell (by exact s1) (by simp), hf.cell (by exact q0) (by simp), hf.cell (by exact q1) (by simp), hf.cell (by exact q2) (by simp), hf.cell (by exact hc3) (by simp)⟩ (fun _ => ?_)
    try simp only [Act.put, List.setIfInBounds_toArray, List.set_cons_zero, List.set_cons_succ]
    clear hf
    iterate 18 (first | (refine ht_on (o := ?_) (v := ?_) ?_ ?_ (fun w hSw => ?_) ?_; rotate_left 2; (focus ((simp only [List.getElem?_toArray, List.getElem?_cons_succ, List.getElem?_cons_zero]); (try rfl); done)); (focus (rfl)); (focus (((try obtain ⟨p0, p1, p2, p3, p4, p5⟩ := hSw); (try dsimp only at hSw); go_simp; (try with_reducible rfl)); done)); simp only [Act.put, List.setIfInBounds_toArray, List.set_cons_zero, List.set_cons_succ]) | (refine ht_off_light (o := ?_) ?_ ?_ ?_; rotate_left 1; (focus ((simp only [List.getElem?_toArray, List.getElem?_cons_succ, List.getElem?_cons_zero]); (try rfl); done)); (focus (rfl)); simp only [Act.put, List.setIfInBounds_toArray, List.set_cons_zero, List.set_cons_succ]))
    refine ht_done_np ?_
    go_wp2_with fail
    go_ret
    exact ⟨rfl, F5.out⟩
end Go.Proofs.Ytcnoaflojojfkab.Nfa
