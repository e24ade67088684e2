/- nfa.Nfa in memory: Moves, Ends, Query. No condition. -/
import Derived.Test.YtcnoaflojojfkabNfa
namespace Go.Proofs.Ytcnoaflojojfkab.Nfa
open Go.RowKit Go.Proofs.Ytcnoaflojojfkab.Pat Go.Proofs.Ytcnoaflojojfkab.Qry
set_option linter.unusedVariables false
set_option linter.unusedSimpArgs false
set_option maxRecDepth 100000

theorem at_nil (k : Nat) (w : World) : Calls Try.prog 59 #[.pointer none, .int .i64 k] w fun e w' => e = .returned (.tuple #[.agg #[.int .i64 0, .int .i64 0], .bool false]) ∧ Fr [] w w' := by
  have HB := Lib.hid (Blk.new w [.int .i64 0, .int .i64 0] 100)
  have hd0 : decide ((k : Int) < 0) = false := decide_eq_false (by omega)
  have hd : decide ((0 : Int) ≤ (k : Int)) = true := decide_eq_true (by omega)
  go_enter Try.func59, Try.ntmps59
  go_wp2_with (first | (go_at_call 58; refine (len_nil _).mono ?_; rintro e w' ⟨rfl, rfl⟩))
  try simp only [Exit.inBlock, Exit.then]
  refine ret_cell_tmp HB.out rfl rfl Try.underlying100 rfl (by kernel_rfl) rfl ?_
  exact ⟨rfl, (Fr.refl _ _).alloc _⟩
theorem moves_nil (w : World) : Calls Try.prog 60 #[.pointer none, .int .i64 0] w fun e w' => e = .returned (.slice none 0 0) ∧ Fr [] w w' := by
  go_enter Try.func60, Try.ntmps60
  go_wp2_with fail
  refine (at_nil 0 w).mono ?_
  rintro e w1 ⟨rfl, hf⟩
  have F1 := Lib.hid hf
  clear hf
  go_wp2_with fail
  go_ret
  exact ⟨rfl, F1.out.alloc _⟩
theorem query_nil (w : World) : Calls Try.prog 64 #[.pointer none] w fun e w' => e = .returned (.agg #[.slice none 0 0, .int .i64 0, .int .i64 0]) ∧ Fr [] w w' := by
  have HB := Lib.hid (Blk.new w [.slice none 0 0, .int .i64 0, .int .i64 0] 67)
  go_enter Try.func64, Try.ntmps64
  go_wp2_with fail
  try simp only [Exit.inBlock, Exit.then]
  refine ret_cell HB.out rfl rfl Try.underlying67 rfl (by kernel_rfl) rfl ?_
  exact ⟨rfl, (Fr.refl _ _).alloc _⟩
theorem moves_out (nb n c : Nat) (a : Option Addr) (k : Int) (w : World) (h : w.cell? ⟨nb, 3, none⟩ = some (.slice a n c)) (hk : k < 0 ∨ (n : Int) ≤ k) : Calls Try.prog 60 #[.pointer (some ⟨nb, 0, none⟩), .int .i64 k] w fun e w' =>
    e = .returned (.slice none 0 0) ∧ Fr [] w w' := by
  have HH := Lib.hid h
  have HK := Lib.hid hk
  clear h hk
  go_enter Try.func60, Try.ntmps60
  go_wp2_with fail
  refine (at_out nb n c a k w HH.out HK.out).mono ?_
  rintro e w1 ⟨rfl, hf⟩
  have F1 := Lib.hid hf
  clear hf
  go_wp2_with fail
  go_ret
  exact ⟨rfl, F1.out.alloc _⟩
def l1Of (sts : List Sta) (s : Sta) : List Int := if 0 ≤ s.e ∧ 0 ≤ idx sts ⟨s.e, s.c + 1⟩ then [idx sts ⟨s.e, s.c + 1⟩] else []
def l2Of (es : List El) (sts : List Sta) (s : Sta) : List Int := if 0 < idx sts ⟨nextOf es (s.e + 1).toNat, 1⟩ then [idx sts ⟨nextOf es (s.e + 1).toNat, 1⟩] else []
/-- has an element too few events yet? -/
def few (es : List El) (s : Sta) : Bool := if 0 ≤ s.e then (match es[s.e.toNat]? with | some e => decide (s.c < e.mn) | none => false) else false
def movesOf (es : List El) (sts : List Sta) (s : Sta) : List Int := if few es s = true then l1Of sts s else l1Of sts s ++ l2Of es sts s
theorem info_int : (Try.prog.info? 3).map (fun i => (i.zero, i.size, i.bytes)) = some (some (.int .i64 0), 1, 8) := by kernel_rfl
set_option maxHeartbeats 8000000 in
theorem moves_in (nb : Nat) (es : List El) (sts : List Sta) (a : Option Addr) (c : Nat) (win cap : Int) (al : Option Addr) (cl : Nat) (k : Nat) (s : Sta) (w : World) (h : Nf w nb es sts a c win cap al cl) (hk : sts[k]? = some s)
    (he : s.e = -1 ∨ ∃ (i : Nat) (e : El), s.e = (i : Int) ∧ es[i]? = some e) (hl : es.length ≤ 4) (hsl : sts.length ≤ 17) (hc : 0 ≤ s.c ∧ s.c ≤ 1000) :
    Calls Try.prog 60 #[.pointer (some ⟨nb, 0, none⟩), .int .i64 k] w fun e w' => ∃ (a' : Option Addr) (c' : Nat), e = .returned (.slice a' (movesOf es sts s).length c') ∧
      View w' w.heap.size 3 1 (.slice a' (movesOf es sts s).length c') (movesOf es sts s).length ((movesOf es sts s).map (Value.int .i64)) ∧ Fr [] w w' := by
  obtain ⟨i0, hi0, hz0, hz1, hz2⟩ := info_parts info_int
  have HN := Lib.hid h
  have HK := Lib.hid hk
  have HE := Lib.hid he
  clear h hk he
  go_enter Try.func60, Try.ntmps60
  go_wp2_with fail
  refine (at_in nb cl al sts k s w (HN.out.top.cell_at (o := 3) rfl) HN.out.stas HK.out).mono ?_
  rintro e w1 ⟨rfl, hf⟩
  have F1 := Lib.hid hf
  have HN1 := Lib.hid (HN.out.fr0 hf)
  clear hf
  go_wp2_with fail
  have B2 := Lib.hid (Blk.new w1 [.int .i64 s.e, .int .i64 s.c] 100)
  have hf2 : Fr [] w1 (w1.alloc (.cells [.int .i64 s.e, .int .i64 s.c].toArray 100)) := (Fr.refl _ _).alloc _
  have HN2 := Lib.hid (HN1.out.fr0 hf2)
  have F2 := Lib.hid (F1.out.trans0 hf2)
  obtain ⟨sb, hsb⟩ : ∃ q, q = w1.heap.size := ⟨_, rfl⟩
  obtain ⟨w2, hw2⟩ : ∃ W, W = w1.alloc (.cells [.int .i64 s.e, .int .i64 s.c].toArray 100) := ⟨_, rfl⟩
  rw [← hsb, ← hw2] at B2
  rw [← hw2] at HN2 F2
  rw [show w1.alloc (.cells #[.int .i64 s.e, .int .i64 s.c] 100) = w2 from hw2.symm, ← hsb]
  clear hf2 hsb hw2 HN1 F1
  refine (find_any nb sts ⟨s.e, s.c + 1⟩ al cl w2 (HN2.out.top.cell_at (o := 3) rfl) HN2.out.stas (by omega)).mono ?_
  rintro e w3 ⟨rfl, hf⟩
  have B3 := Lib.hid (B2.out.fr hf (by simp))
  have HN3 := Lib.hid (HN2.out.fr0 hf)
  have F3 := Lib.hid (F2.out.trans0 hf)
  clear hf B2 HN2 F2
  obtain ⟨i1, hi1⟩ : ∃ q, q = idx sts ⟨s.e, s.c + 1⟩ := ⟨_, rfl⟩
  rw [← hi1]
  have HI1 := Lib.hid hi1
  clear hi1
  have s0 := B3.out.cell_at (o := 0) rfl
  have s1 := B3.out.cell_at (o := 1) rfl
  go_upto_region 6 with (fail)
  go_cut [32] (fun v32 wc => ∃ t : Bool, v32 = .bool t ∧ wc = w3 ∧ (t = true ↔ (0 ≤ s.e ∧ 0 ≤ i1)))
  case first =>
    rcases HE.out with hse | ⟨i, e, hse, hei⟩
    · rw [hse] at s0
      go_wp2_with fail
      go_meet
      case rel => exact ⟨false, rfl, rfl, by rw [hse]; simp⟩
    · rw [hse] at s0
      have hi0' : decide ((0 : Int) ≤ (i : Int)) = true := decide_eq_true (by omega)
      obtain ⟨t, ht⟩ : ∃ t, decide ((0 : Int) ≤ i1) = t := ⟨_, rfl⟩
      go_wp2_with fail
      go_meet
      case rel => exact ⟨t, rfl, rfl, by rw [← ht, hse]; simp⟩
  case rest =>
    obtain ⟨t, rfl, rfl, ht⟩ := hcut
    obtain ⟨w3, rfl⟩ : ∃ W, W = wc := ⟨_, rfl⟩
    have HT := Lib.hid ht
    clear ht
    go_upto_if 32 with (fail)
    go_cut [7] (fun v7 wc => ∃ (a7 : Option Addr) (c7 : Nat), v7 = .slice a7 (l1Of sts s).length c7 ∧ View wc w.heap.size 3 1 (.slice a7 (l1Of sts s).length c7) (l1Of sts s).length ((l1Of sts s).map (Value.int .i64)) ∧ Fr [] w3 wc)
    case first =>
      cases t with
      | true =>
        have hl1 : l1Of sts s = [i1] := by unfold l1Of; rw [if_pos (by rw [← HI1.out]; exact HT.out.1 rfl), ← HI1.out]
        have HL1 := Lib.hid hl1
        clear hl1
        go_wp2_with (first | (at_builtin; refine wpList_append_view _ rfl _ _ 33 rfl w.heap.size 3 i0 (.int .i64 0) 1 8 Try.underlying33 hi0 hz0 hz1 hz2 rfl _ _ 0 _ rfl (View.nil _ _ _ _) _ 1 [.int .i64 i1] rfl (reads_one _ _ _) (by simp [Value.oneCell']) (by unfold maxLen; omega) (by omega) (by have := F3.out.size; simp; omega) ?_; intro a' c' w' hv' hg' hat'; have HV' := Lib.hid hv'; have HG' := Lib.hid hg'; clear hv' hg' hat'))
        go_meet
        case rel =>
          rw [HL1.out]
          exact ⟨a', c', rfl, HV'.out, ((Fr.refl _ _).alloc _).grown HG'.out (fun j hj => by cases hj)⟩
      | false =>
        have hl1 : l1Of sts s = [] := by unfold l1Of; rw [if_neg (by rw [← HI1.out]; exact fun h => absurd (HT.out.2 h) (by simp))]
        have HL1 := Lib.hid hl1
        clear hl1
        go_wp2_with fail
        go_meet
        case rel =>
          rw [HL1.out]
          exact ⟨none, 0, rfl, View.nil _ _ _ _, Fr.refl _ _⟩
    case rest =>
      obtain ⟨a7, c7, rfl, hV, hf⟩ := hcut
      obtain ⟨w4, rfl⟩ : ∃ W, W = wc := ⟨_, rfl⟩
      have V4 := Lib.hid hV
      have B4 := Lib.hid (B3.out.fr hf (by simp))
      have HN4 := Lib.hid (HN3.out.fr0 hf)
      have F4 := Lib.hid (F3.out.trans0 hf)
      clear hV hf s0 s1 B3 HN3 F3 HT HI1
      have HLL : (l1Of sts s).length ≤ 1 := by unfold l1Of; split <;> simp
      have s0 := B4.out.cell_at (o := 0) rfl
      have s1 := B4.out.cell_at (o := 1) rfl
      go_upto_region 8 with (fail)
      go_cut [54] (fun v54 wc => v54 = .bool (few es s) ∧ ∃ q, wc = w4.drewN q)
      case first =>
        rcases HE.out with hse | ⟨i, e, hse, hei⟩
        · have hfew : few es s = false := by unfold few; rw [hse]; rfl
          have HFEW := Lib.hid hfew
          rw [hse] at s0
          clear hfew
          refine wp_region_tree_np (fun W => W.cell? ⟨sb, 0, none⟩ = some (.int .i64 (-1))) (.on 0 (.on 1 (.on 2 (.on 3 (.on 4 (.on 5 (.on 6 (.on 7 (.on 8 (.on 9 (.on 10 (.on 11 (.on 12 (.on 13 (.on 14 (.on 15 (.on 16 (.on 17 .nil)))))))))))))))))) (by kernel_rfl) (by kernel_rfl) s0 ?_
          iterate 18 (first | (refine ht_on (o := ?_) (v := ?_) ?_ ?_ (fun w hSw => ?_) ?_; rotate_left 2; (focus ((simp only [List.getElem?_toArray, List.getElem?_cons_succ, List.getElem?_cons_zero]); (try rfl); done)); (focus (rfl)); (focus (((try obtain _ := hSw); (try dsimp only at hSw); go_simp; (try with_reducible rfl)); done)); simp only [Act.put, List.setIfInBounds_toArray, List.set_cons_zero, List.set_cons_succ]) | (refine ht_off_light (o := ?_) ?_ ?_ ?_; rotate_left 1; (focus ((simp only [List.getElem?_toArray, List.getElem?_cons_succ, List.getElem?_cons_zero]); (try rfl); done)); (focus (rfl)); simp only [Act.put, List.setIfInBounds_toArray, List.set_cons_zero, List.set_cons_succ]))
          refine ht_done_np ?_
          go_wp2_with fail
          go_meet
          case rel => exact ⟨by rw [HFEW.out], 1, rfl⟩
        · have hfew : few es s = decide (s.c < e.mn) := by unfold few; rw [hse, if_pos (by omega), Int.toNat_natCast, hei]
          have HFEW := Lib.hid hfew
          rw [hse] at s0
          obtain ⟨b, o, rfl⟩ := HN4.out.els.rec_addr El.len (by omega) hei
          have hc3 : w4.cell? ⟨b, o + i * 6 + 3, none⟩ = some (.int .i64 e.mn) := HN4.out.els.rec El.len hei rfl
          have n0 := HN4.out.top.cell_at (o := 0) rfl
          have hi0' : decide ((0 : Int) ≤ (i : Int)) = true := decide_eq_true (by omega)
          have hiI : i < es.length := (List.getElem?_eq_some_iff.1 hei).1
          clear hfew hei
          go_quiet (fail)
          go_wp2_with fail
          go_meet
          case rel => exact ⟨by rw [HFEW.out], _, rfl⟩
      case rest =>
        obtain ⟨rfl, q, rfl⟩ := hcut
        obtain ⟨ww, hww⟩ : ∃ W, W = w4.drewN q := ⟨_, rfl⟩
        have HNW := Lib.hid (show Nf ww nb es sts a c win cap al cl by rw [hww]; exact HN4.out.fr0 ((Fr.refl _ _).drewN _))
        have FW : Hid (Fr [] w ww) := Lib.hid (by rw [hww]; exact F4.out.drewN _)
        have VW := Lib.hid (show View ww w.heap.size 3 1 (.slice a7 (l1Of sts s).length c7) (l1Of sts s).length ((l1Of sts s).map (Value.int .i64)) by rw [hww]; exact V4.out.drewN _)
        have s0 : ww.cell? ⟨sb, 0, none⟩ = some (.int .i64 s.e) := by rw [hww]; exact s0
        rw [← hww]
        clear hww s1 V4 B4 HN4 F4
        have HSE : Hid (-9223372036854775808 ≤ s.e ∧ s.e ≤ 9223372036854775807) := Lib.hid (by
          rcases HE.out with h | ⟨i, e, h, hei⟩
          · omega
          · have := (List.getElem?_eq_some_iff.1 hei).1; omega)
        cases hfw : few es s with
        | true =>
          have HM : Hid (movesOf es sts s = l1Of sts s) := Lib.hid (by unfold movesOf; rw [if_pos hfw])
          go_wp2_with fail
          go_ret
          rw [HM.out]
          exact ⟨a7, c7, rfl, VW.out, FW.out⟩
        | false =>
          have HM : Hid (movesOf es sts s = l1Of sts s ++ l2Of es sts s) := Lib.hid (by unfold movesOf; rw [if_neg (by rw [hfw]; simp)])
          clear hfw
          have q0 := HNW.out.top.cell_at (o := 0) rfl
          have q1 := HNW.out.top.cell_at (o := 1) rfl
          have q2 := HNW.out.top.cell_at (o := 2) rfl
          go_upto_region 10 with (fail)
          refine wp_region_tree_np (fun W => W.cell? ⟨nb, 0, none⟩ = some (.slice a es.length c) ∧ W.cell? ⟨nb, 1, none⟩ = some (.int .i64 win) ∧ W.cell? ⟨nb, 2, none⟩ = some (.int .i64 cap) ∧ W.cell? ⟨sb, 0, none⟩ = some (.int .i64 s.e)) (.on 0 (.on 1 (.on 2 (.on 3 (.on 4 (.on 5 (.on 6 (.one 7 (.on 8 (.one 9 (.on 10 .nil))))))))))) (by kernel_rfl) (by kernel_rfl) ⟨q0, q1, q2, s0⟩ ?_
          obtain ⟨wy, hwy⟩ : ∃ W, W = ww.drew := ⟨_, rfl⟩
          have HNY := Lib.hid (show Nf wy nb es sts a c win cap al cl by rw [hwy]; exact HNW.out.fr0 (Fr.refl _ _).drew)
          have FY : Hid (Fr [] w wy) := Lib.hid (by rw [hwy]; exact FW.out.drew)
          have VY := Lib.hid (show View wy w.heap.size 3 1 (.slice a7 (l1Of sts s).length c7) (l1Of sts s).length ((l1Of sts s).map (Value.int .i64)) by rw [hwy]; exact VW.out.fr0 (Fr.refl _ _).drew)
          have q0 : wy.cell? ⟨nb, 0, none⟩ = some (.slice a es.length c) := HNY.out.top.cell_at rfl
          have q1 : wy.cell? ⟨nb, 1, none⟩ = some (.int .i64 win) := HNY.out.top.cell_at rfl
          have q2 : wy.cell? ⟨nb, 2, none⟩ = some (.int .i64 cap) := HNY.out.top.cell_at rfl
          have s0 : wy.cell? ⟨sb, 0, none⟩ = some (.int .i64 s.e) := by rw [hwy]; exact s0
          rw [← hwy]
          clear hwy
          iterate 7 (first | (refine ht_on (o := ?_) (v := ?_) ?_ ?_ (fun w hSw => ?_) ?_; rotate_left 2; (focus ((simp only [List.getElem?_toArray, List.getElem?_cons_succ, List.getElem?_cons_zero]); (try rfl); done)); (focus (rfl)); (focus (((try obtain ⟨p0, p1, p2, p3⟩ := hSw); (try dsimp only at hSw); go_simp; (try with_reducible rfl)); done)); simp only [Act.put, List.setIfInBounds_toArray, List.set_cons_zero, List.set_cons_succ]) | (refine ht_off_light (o := ?_) ?_ ?_ ?_; rotate_left 1; (focus ((simp only [List.getElem?_toArray, List.getElem?_cons_succ, List.getElem?_cons_zero]); (try rfl); done)); (focus (rfl)); simp only [Act.put, List.setIfInBounds_toArray, List.set_cons_zero, List.set_cons_succ]))
          refine ht_one (o := ?_) ?_ ?_ (fun K hK => ?_)
          rotate_left 1
          (focus ((simp only [List.getElem?_toArray, List.getElem?_cons_succ, List.getElem?_cons_zero]); (try rfl); done))
          focus (rfl)
          go_simp
          refine (next_any a c _ _ es s.e HSE.out wy (HNY.out.els) (by omega)).mono ?_
          rintro e wz1 ⟨rfl, hf⟩
          have G1 : Hid (Fr [] wy wz1) := Lib.hid hf
          refine hK.out _ _ ⟨G1.out.cell q0 (by simp), G1.out.cell q1 (by simp), G1.out.cell q2 (by simp), G1.out.cell s0 (by simp)⟩ (fun _ => ?_)
          try simp only [Act.put, List.setIfInBounds_toArray, List.set_cons_zero, List.set_cons_succ]
          iterate 1 (first | (refine ht_on (o := ?_) (v := ?_) ?_ ?_ (fun w hSw => ?_) ?_; rotate_left 2; (focus ((simp only [List.getElem?_toArray, List.getElem?_cons_succ, List.getElem?_cons_zero]); (try rfl); done)); (focus (rfl)); (focus (((try obtain ⟨p0, p1, p2, p3⟩ := hSw); (try dsimp only at hSw); go_simp; (try with_reducible rfl)); done)); simp only [Act.put, List.setIfInBounds_toArray, List.set_cons_zero, List.set_cons_succ]) | (refine ht_off_light (o := ?_) ?_ ?_ ?_; rotate_left 1; (focus ((simp only [List.getElem?_toArray, List.getElem?_cons_succ, List.getElem?_cons_zero]); (try rfl); done)); (focus (rfl)); simp only [Act.put, List.setIfInBounds_toArray, List.set_cons_zero, List.set_cons_succ]))
          refine ht_one (o := ?_) ?_ ?_ (fun K hK => ?_)
          rotate_left 1
          (focus ((simp only [List.getElem?_toArray, List.getElem?_cons_succ, List.getElem?_cons_zero]); (try rfl); done))
          focus (rfl)
          go_simp
          refine (find_any nb sts ⟨nextOf es (s.e + 1).toNat, 1⟩ al cl wz1 (((HNY.out.fr0 G1.out).top.cell_at (o := 3) rfl)) (HNY.out.fr0 G1.out).stas (by omega)).mono ?_
          rintro e wz2 ⟨rfl, hf⟩
          have G2 : Hid (Fr [] wy wz2) := Lib.hid (G1.out.trans0 hf)
          refine hK.out _ _ ⟨G2.out.cell q0 (by simp), G2.out.cell q1 (by simp), G2.out.cell q2 (by simp), G2.out.cell s0 (by simp)⟩ (fun _ => ?_)
          try simp only [Act.put, List.setIfInBounds_toArray, List.set_cons_zero, List.set_cons_succ]
          iterate 1 (first | (refine ht_on (o := ?_) (v := ?_) ?_ ?_ (fun w hSw => ?_) ?_; rotate_left 2; (focus ((simp only [List.getElem?_toArray, List.getElem?_cons_succ, List.getElem?_cons_zero]); (try rfl); done)); (focus (rfl)); (focus (((try obtain ⟨p0, p1, p2, p3⟩ := hSw); (try dsimp only at hSw); go_simp; (try with_reducible rfl)); done)); simp only [Act.put, List.setIfInBounds_toArray, List.set_cons_zero, List.set_cons_succ]) | (refine ht_off_light (o := ?_) ?_ ?_ ?_; rotate_left 1; (focus ((simp only [List.getElem?_toArray, List.getElem?_cons_succ, List.getElem?_cons_zero]); (try rfl); done)); (focus (rfl)); simp only [Act.put, List.setIfInBounds_toArray, List.set_cons_zero, List.set_cons_succ]))
          refine ht_done_np ?_
          obtain ⟨i2, hi2⟩ : ∃ q, q = idx sts ⟨nextOf es (s.e + 1).toNat, 1⟩ := ⟨_, rfl⟩
          rw [← hi2]
          have HI2 := Lib.hid hi2
          clear hi2 q0 q1 q2 s0
          have VZ := Lib.hid (VY.out.fr0 G2.out)
          have FZ := Lib.hid (FY.out.trans0 G2.out)
          by_cases hp : 0 < i2
          · have hl2 : l2Of es sts s = [i2] := by unfold l2Of; rw [if_pos (by rw [← HI2.out]; exact hp), ← HI2.out]
            have HL2 := Lib.hid hl2
            clear hl2
            go_wp2_with (first | (at_builtin; refine wpList_append_view _ rfl _ _ 33 rfl w.heap.size 3 i0 (.int .i64 0) 1 8 Try.underlying33 hi0 hz0 hz1 hz2 rfl _ _ (l1Of sts s).length _ rfl (VZ.out.fr0 ((Fr.refl _ _).alloc _)) _ 1 [.int .i64 i2] rfl (reads_one _ _ _) (by simp [Value.oneCell']) (by unfold maxLen; omega) (by omega) (by have := FZ.out.size; simp; omega) ?_; intro a' c' w' hv' hg' hat'; have HV' := Lib.hid hv'; have HG' := Lib.hid hg'; clear hv' hg' hat'))
            go_ret
            rw [HM.out, HL2.out]
            refine ⟨a', c', by rw [List.length_append]; rfl, ?_, (FZ.out.alloc _).grown HG'.out (fun j hj => .inr (VZ.out.lt hj).1)⟩
            rw [List.length_append, List.map_append]
            exact HV'.out
          · have hl2 : l2Of es sts s = [] := by unfold l2Of; rw [if_neg (by rw [← HI2.out]; exact hp)]
            have HL2 := Lib.hid hl2
            clear hl2
            go_wp2_with fail
            go_ret
            rw [HM.out, HL2.out, List.append_nil]
            exact ⟨a7, c7, rfl, VZ.out, FZ.out⟩
end Go.Proofs.Ytcnoaflojojfkab.Nfa
