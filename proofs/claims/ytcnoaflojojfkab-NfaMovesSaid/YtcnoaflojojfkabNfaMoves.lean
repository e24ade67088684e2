/- NfaMoves: where it may be behind one event more: the walk of the law. No condition. -/
import Derived.Test.YtcnoaflojojfkabNfaAwake
import Derived.Test.YtcnoaflojojfkabNfaWant
namespace Go.Proofs.Ytcnoaflojojfkab.NfaMoves
open Go.RowKit Go.Proofs.Ytcnoaflojojfkab.Pat Go.Proofs.Ytcnoaflojojfkab.Qry Go.Proofs.Ytcnoaflojojfkab.Nfa
set_option linter.unusedVariables false
set_option linter.unusedSimpArgs false
set_option maxRecDepth 100000
theorem ints_at {w : World} {a : Option Addr} {n c : Nat} {xs : List Int} (h : Reads w 1 (.slice a n c) n (xs.map (Value.int .i64))) {j : Nat} {x : Int} (hx : xs[j]? = some x) : ∃ b o, a = some ⟨b, o, none⟩ ∧ w.cell? ⟨b, o + j, none⟩ = some (.int .i64 x) := by
  obtain ⟨_, a', c', hv, _, h | ⟨b, o, h2, h⟩⟩ := h
  · have := congrArg List.length h
    have h3 := (List.getElem?_eq_some_iff.1 hx).1
    simp at this; rw [this] at h3; simp at h3
  · simp only [Value.slice.injEq, true_and] at hv
    exact ⟨b, o, by rw [hv.1, h2], h _ _ (by rw [List.getElem?_map, hx]; rfl)⟩
/-- what the law has: its query's variable, the elements, and the Nfa -/
structure Has (W : World) (qb nb : Nat) (es es' : List El) (sts : List Sta) (a a' : Option Addr) (c c' : Nat) (win cap : Int) (al : Option Addr) (cl : Nat) : Prop where
  top : Blk W qb [.slice a es.length c, .int .i64 win, .int .i64 cap] 67
  els : Reads W 6 (.slice a es.length c) es.length (qcells es)
  nfa : Nf W nb es' sts a' c' win cap al cl
theorem Has.fr0 {W W' : World} {qb nb : Nat} {es es' : List El} {sts : List Sta} {a a' : Option Addr} {c c' : Nat} {win cap : Int} {al : Option Addr} {cl : Nat} (h : Has W qb nb es es' sts a a' c c' win cap al cl) (hf : Fr [] W W') : Has W' qb nb es es' sts a a' c c' win cap al cl :=
  ⟨h.top.fr hf (by simp), h.els.fr0 hf, h.nfa.fr0 hf⟩
theorem info_state2 : (Try.prog.info? 100).map (fun i => (i.zero, i.size, i.bytes)) = some (some (.agg #[.int .i64 0, .int .i64 0]), 2, 16) := by kernel_rfl

theorem field_q (x : World) : (Instr.field 67 (.agg #[.slice none 0 0, .int .i64 0, .int .i64 0]) 0).run Try.prog x = .ok (.slice none 0 0) x := by kernel_rfl
attribute [local go_sem] field_q
set_option maxHeartbeats 8000000 in
theorem walk (zs : List Int) (v0 : Value) {w : World} (hr0 : Reads w 1 v0 zs.length (zs.map (Value.int .i64))) (_w0 : ∀ x ∈ zs, (Lit.int .i64 x).wf = true) (hlen : zs.length * 8 ≤ 140737488351232) (k : Int) (_wk : (Lit.int .i64 k).wf = true) :
    Calls Try.prog 14 #[v0, .int .i64 k] w fun e w' => e = .returned (.bool true) ∧ Fr [] w w' := by
  obtain ⟨ap, cp, rfl⟩ : ∃ a c, v0 = .slice a zs.length c := by obtain ⟨_, a, c, h, _⟩ := hr0; exact ⟨a, c, h⟩
  have HR := Lib.hid hr0
  clear hr0 _w0 _wk
  obtain ⟨i0, hi0, hz0, hz1, hz2⟩ := info_parts info_state2
  go_enter Try.func14, Try.ntmps14
  go_wp2_with fail
  refine (query_any zs ap cp w HR.out hlen).mono ?_
  rintro _ w1 ⟨es, a, c, win, cap, rfl, hM, h1, h4, _⟩
  have HM := Lib.hid hM
  clear hM
  have hfine : Fine es := ⟨h4, fun e he => by
    obtain ⟨i, hi⟩ := List.mem_iff_getElem?.1 he
    have hg := (HM.out.each i e hi).1
    obtain ⟨_, g1, g2, g3, g4, _⟩ := hg
    omega⟩
  have HFI := Lib.hid hfine
  have hsees : ∀ e ∈ es, Sees w1 e := fun e he => by
    obtain ⟨i, hi⟩ := List.mem_iff_getElem?.1 he
    exact (HM.out.each i e hi).2.1.sees
  have HSEES := Lib.hid hsees
  clear hfine hsees
  go_upto_region 2 with (fail)
  have B2 := Lib.hid (Blk.new w1 [.slice a es.length c, .int .i64 win, .int .i64 cap] 67)
  have hf2 : Fr [] w1 (w1.alloc (.cells [.slice a es.length c, .int .i64 win, .int .i64 cap].toArray 67)) := (Fr.refl _ _).alloc _
  have E2 := Lib.hid (HM.out.view.reads.fr0 hf2)
  have F2 := Lib.hid (HM.out.fr.trans0 hf2)
  have HS2 : Hid (∀ e ∈ es, Sees (w1.alloc (.cells [.slice a es.length c, .int .i64 win, .int .i64 cap].toArray 67)) e) := Lib.hid (fun e he => by
    obtain ⟨⟨ts, h1, h2⟩, ns, h3, h4⟩ := HSEES.out e he
    exact ⟨⟨ts, h1, h2.fr0 hf2⟩, ns, h3, h4.fr0 hf2⟩)
  obtain ⟨qb, hqb⟩ : ∃ q, q = w1.heap.size := ⟨_, rfl⟩
  obtain ⟨w2, hw2⟩ : ∃ W, W = w1.alloc (.cells [.slice a es.length c, .int .i64 win, .int .i64 cap].toArray 67) := ⟨_, rfl⟩
  rw [← hqb, ← hw2] at B2
  rw [← hw2] at E2 F2 HS2
  rw [show w1.alloc (.cells #[.slice a es.length c, .int .i64 win, .int .i64 cap] 67) = w2 from hw2.symm, ← hqb]
  clear hf2 hqb hw2 HM HSEES HR
  have q0 := B2.out.cell_at (o := 0) rfl
  have q1 := B2.out.cell_at (o := 1) rfl
  have q2 := B2.out.cell_at (o := 2) rfl
  go_wp2_with fail
  refine (new_any es a c win cap w2 E2.out HS2.out HFI.out).mono ?_
  rintro _ w3 ⟨nb, es', a', c', al, cl, rfl, hLk, hN, hf⟩
  obtain ⟨sts, hsts⟩ : ∃ l, l = upto es es.length := ⟨_, rfl⟩
  rw [← hsts] at hN
  have HSTS := Lib.hid hsts
  have hL17 : sts.length ≤ 17 := by rw [hsts]; have := upto_len es es.length; omega
  have HLK := Lib.hid hLk
  have H3 : Hid (Has w3 qb nb es es' sts a a' c c' win cap al cl) := Lib.hid ⟨B2.out.fr hf (by simp), E2.out.fr0 hf, hN⟩
  have F3 := Lib.hid (F2.out.trans0 hf)
  clear hsts hLk hN hf B2 E2 F2 HS2 q0 q1 q2
  have n3 := H3.out.nfa.top.cell_at (o := 3) rfl
  obtain ⟨kk, hkk⟩ : ∃ q : Nat, (q : Int) = k % 256 := ⟨(k % 256).toNat, by omega⟩
  have hand : bits .and .i64 k 255 = (kk : Int) := by rw [hkk]; exact and255 k
  obtain ⟨i, hi⟩ : ∃ q, q = kk % (sts.length + 1) := ⟨_, rfl⟩
  have hrem : (kk : Int).tmod ((sts.length : Int) + 1) = (i : Int) := by
    rw [Int.tmod_eq_emod_of_nonneg (by omega), hi]; rfl
  have hiL : i ≤ sts.length := by have := Nat.mod_lt kk (show 0 < sts.length + 1 by omega); omega
  have hne : ¬ ((sts.length : Int) + 1 = 0) := by omega
  clear hkk hi
  go_wp2_with (first | (go_at_call 58; refine (len_any nb sts.length cl al _ n3).mono ?_; rintro e w' ⟨rfl, rfl⟩))
  by_cases hiN : (sts.length : Int) ≤ (i : Int)
  · refine (at_out nb sts.length cl al (i : Int) w3 n3 (.inr hiN)).mono ?_
    rintro _ w4 ⟨rfl, hf⟩
    have F4 := Lib.hid (F3.out.trans0 hf)
    have n34 := hf.cell n3 (by simp)
    clear hf H3 n3
    go_upto_region 15 with (fail)
    have hn5 := new2 w4 [.int .i64 0, .int .i64 0] 100 [] 100
    obtain ⟨w5, hw5⟩ : ∃ W, W = (w4.alloc (.cells [.int .i64 0, .int .i64 0].toArray 100)).alloc (.cells [].toArray 100) := ⟨_, rfl⟩
    rw [← hw5] at hn5
    rw [show (w4.alloc (.cells #[.int .i64 0, .int .i64 0] 100)).alloc (.cells #[] 100) = w5 from hw5.symm]
    obtain ⟨hb5, _, hf5⟩ := hn5
    have F5 := Lib.hid (F4.out.trans0 hf5)
    have B5 := Lib.hid hb5
    have n35 := hf5.cell n34 (by simp)
    clear hw5 hb5 hf5 n34
    go_wp2_with fail
    refine (moves_out nb sts.length cl al (i : Int) w5 n35 (.inr hiN)).mono ?_
    rintro _ w6 ⟨rfl, hf⟩
    have F6 := Lib.hid (F5.out.trans0 hf)
    have BS := Lib.hid (B5.out.fr hf (by simp))
    clear hf n35 B5 F5
    go_wp2_with fail
    refine wp_loop_rounds 1 ?_
    rw [rounds_succ]
    go_wp2_with fail
    refine (awake_any _).mono ?_
    rintro _ x1 ⟨rfl, hf⟩
    have T1 := Lib.hid (F6.out.trans0 hf)
    have BS1 := Lib.hid (BS.out.fr hf (by simp))
    clear hf
    have s0 := BS1.out.cell_at (o := 0) rfl
    have s1 := BS1.out.cell_at (o := 1) rfl
    go_wp2_with (first | (go_at_call 58; refine (len_nil _).mono ?_; rintro e w' ⟨rfl, rfl⟩))
    refine (find_nil ⟨0,0⟩ _).mono ?_
    rintro _ x2 ⟨rfl, hf⟩
    have T2 := Lib.hid (T1.out.trans0 hf)
    clear hf s0 s1 T1 BS1
    go_wp2_with fail
    refine (moves_nil _).mono ?_
    rintro _ x3 ⟨rfl, hf⟩
    have T3 := Lib.hid (T2.out.trans0 hf)
    clear hf T2
    go_wp2_with fail
    refine (ends_nil _).mono ?_
    rintro _ x4 ⟨rfl, hf⟩
    have T4 := Lib.hid (T3.out.trans0 hf)
    clear hf T3
    go_wp2_with fail
    refine (query_nil _).mono ?_
    rintro _ x5 ⟨rfl, hf⟩
    have T5 := Lib.hid (T4.out.trans0 hf)
    clear hf T4
    go_wp2_with fail
    go_ret
    exact ⟨rfl, T5.out⟩
  · have hiN' : i < sts.length := by omega
    obtain ⟨s, hs⟩ : ∃ s, sts[i]? = some s := ⟨_, List.getElem?_eq_getElem hiN'⟩
    have HSI := Lib.hid hs
    have hmem : s ∈ upto es es.length := by rw [← HSTS.out]; exact List.mem_of_getElem? hs
    have hE := (mem_upto (es := es) (x := s) es.length).1 hmem
    have hEE : (s.e = -1 ∧ s.c = 0) ∨ ∃ (j : Nat) (e : El), s.e = (j : Int) ∧ es[j]? = some e ∧ 1 ≤ s.c ∧ s.c ≤ 4 := by
      rcases hE with h | ⟨j, e, _, h2, _, h4, h5, h6⟩
      · exact .inl h
      · exact .inr ⟨j, e, h4, h2, h5, by have := many_le e; omega⟩
    have HEE := Lib.hid hEE
    have hW := want_is HFI.out hmem
    rw [← HSTS.out] at hW
    have HW := Lib.hid hW
    have hwl := want_len es s
    clear hs hmem hE hEE hW
    refine (at_in nb cl al sts i s w3 n3 H3.out.nfa.stas HSI.out).mono ?_
    rintro _ w4 ⟨rfl, hf⟩
    have F4 := Lib.hid (F3.out.trans0 hf)
    have H4 := Lib.hid (H3.out.fr0 hf)
    clear hf H3 n3 F3
    go_upto_region 5 with (fail)
    have B5 := Lib.hid (Blk.new w4 [.int .i64 s.e, .int .i64 s.c] 100)
    have hf5 : Fr [] w4 (w4.alloc (.cells [.int .i64 s.e, .int .i64 s.c].toArray 100)) := (Fr.refl _ _).alloc _
    have H5 := Lib.hid (H4.out.fr0 hf5)
    have F5 := Lib.hid (F4.out.trans0 hf5)
    obtain ⟨sb, hsb⟩ : ∃ q, q = w4.heap.size := ⟨_, rfl⟩
    obtain ⟨w5, hw5⟩ : ∃ W, W = w4.alloc (.cells [.int .i64 s.e, .int .i64 s.c].toArray 100) := ⟨_, rfl⟩
    rw [← hsb, ← hw5] at B5
    rw [← hw5] at H5 F5
    rw [show w4.alloc (.cells #[.int .i64 s.e, .int .i64 s.c] 100) = w5 from hw5.symm, ← hsb]
    clear hf5 hsb hw5 H4 F4
    have VN : Hid (View (w5.alloc (.cells #[] 100)) w5.heap.size 100 2 (.slice (some ⟨w5.heap.size, 0, none⟩) 0 0) 0 []) := Lib.hid (View.of_blk (Blk.new w5 [] _) (Nat.le_refl _) rfl (by decide))
    have FN : Hid (Fr [] w5 (w5.alloc (.cells #[] 100))) := Lib.hid ((Fr.refl _ _).alloc _)
    go_upto_region 7 with (fail)
    obtain ⟨w6, hw6⟩ : ∃ W, W = w5.alloc (.cells #[] 100) := ⟨_, rfl⟩
    rw [← hw6] at VN FN ⊢
    clear hw6
    have B6 := Lib.hid (B5.out.fr FN.out (by simp))
    have H6 := Lib.hid (H5.out.fr0 FN.out)
    have s0 := B6.out.cell_at (o := 0) rfl
    have s1 := B6.out.cell_at (o := 1) rfl
    go_cut [49] (fun v49 wc => ∃ t : Bool, v49 = .bool t ∧ (∃ q, wc = w6.drewN q) ∧ w1Of es s = if t = true then [⟨s.e, s.c + 1⟩] else [])
    case first =>
      rcases HEE.out with ⟨hse, hsc⟩ | ⟨j, e, hse, hej, hc1, hc4⟩
      · have HSE := Lib.hid hse
        rw [hse] at s0
        clear hse hsc
        refine wp_region_tree_np (fun W => W.cell? ⟨sb, 0, none⟩ = some (.int .i64 (-1))) (.on 0 (.on 1 (.on 2 (.on 3 (.on 4 (.on 5 (.on 6 (.on 7 (.on 8 (.on 9 (.on 10 (.on 11 (.on 12 (.on 13 (.on 14 .nil))))))))))))))) (by kernel_rfl) (by kernel_rfl) s0 ?_
        iterate 15 (first | (refine ht_on (o := ?_) (v := ?_) ?_ ?_ (fun w hSw => ?_) ?_; rotate_left 2; (focus ((simp only [List.getElem?_toArray, List.getElem?_cons_succ, List.getElem?_cons_zero]); (try rfl); done)); (focus (rfl)); (focus (((try obtain _ := hSw); (try dsimp only at hSw); go_simp; (try with_reducible rfl)); done)); simp only [Act.put, List.setIfInBounds_toArray, List.set_cons_zero, List.set_cons_succ]) | (refine ht_off_light (o := ?_) ?_ ?_ ?_; rotate_left 1; (focus ((simp only [List.getElem?_toArray, List.getElem?_cons_succ, List.getElem?_cons_zero]); (try rfl); done)); (focus (rfl)); simp only [Act.put, List.setIfInBounds_toArray, List.set_cons_zero, List.set_cons_succ]))
        refine ht_done_np ?_
        go_wp2_with fail
        go_meet
        case rel => exact ⟨false, rfl, ⟨1, rfl⟩, by unfold w1Of; rw [HSE.out]; rfl⟩
      · have HSE := Lib.hid hse
        have HEJ := Lib.hid hej
        rw [hse] at s0
        obtain ⟨b, o, rfl⟩ := H6.out.els.rec_addr El.len (by omega) hej
        have hc4' : w6.cell? ⟨b, o + j * 6 + 4, none⟩ = some (.int .i64 e.mx) := H6.out.els.rec El.len hej rfl
        have q0 := H6.out.top.cell_at (o := 0) rfl
        have hj0' : decide ((0 : Int) ≤ (j : Int)) = true := decide_eq_true (by omega)
        have hjI : j < es.length := (List.getElem?_eq_some_iff.1 hej).1
        obtain ⟨t, ht⟩ : ∃ t, decide (s.c < e.mx) = t := ⟨_, rfl⟩
        have HT := Lib.hid ht
        clear hse hej
        go_quiet (fail)
        go_wp2_with fail
        go_meet
        case rel =>
          refine ⟨t, rfl, ⟨_, rfl⟩, ?_⟩
          unfold w1Of
          rw [HSE.out, if_pos (by omega), Int.toNat_natCast, HEJ.out, ← HT.out]
          by_cases hlt : s.c < e.mx
          · simp [hlt]
          · simp [hlt]
    case rest =>
      obtain ⟨t, rfl, ⟨q, rfl⟩, hw1⟩ := hcut
      have HW1 := Lib.hid hw1
      clear hw1
      obtain ⟨w7, hw7⟩ : ∃ W, W = w6.drewN q := ⟨_, rfl⟩
      have hf7 : Fr [] w6 w7 := by rw [hw7]; exact (Fr.refl _ _).drewN _
      rw [← hw7]
      clear hw7
      have V7 := Lib.hid (VN.out.fr0 hf7)
      have B7 := Lib.hid (B6.out.fr hf7 (by simp))
      have H7 := Lib.hid (H6.out.fr0 hf7)
      have G7 := Lib.hid (FN.out.trans0 hf7)
      clear hf7 s0 s1 B6 H6 VN FN
      have s0 := B7.out.cell_at (o := 0) rfl
      have s1 := B7.out.cell_at (o := 1) rfl
      go_upto_if 49 with (fail)
      go_cut [10] (fun v10 wc => ∃ (aw : Option Addr) (cw : Nat), v10 = .slice aw (w1Of es s).length cw ∧ View wc w5.heap.size 100 2 (.slice aw (w1Of es s).length cw) (w1Of es s).length ((w1Of es s).flatMap Sta.cells) ∧ Fr [] w5 wc)
      case first =>
        cases t with
        | true =>
          have HWT : Hid (w1Of es s = [⟨s.e, s.c + 1⟩]) := Lib.hid (by simpa using HW1.out)
          clear HW1
          have hc8 : -9223372036854775808 ≤ s.c + 1 ∧ s.c + 1 ≤ 9223372036854775807 := by rcases HEE.out with ⟨_, h⟩ | ⟨_, _, _, _, h, h'⟩ <;> omega
          go_wp2_with (first | (at_builtin; refine wpList_append_view _ rfl _ _ 103 rfl w5.heap.size 100 i0 (.agg #[.int .i64 0, .int .i64 0]) 2 16 Try.underlying103 hi0 hz0 hz1 hz2 rfl _ _ 0 _ rfl (V7.out.fr0 ((Fr.refl _ _).alloc _)) _ 1 [.int .i64 s.e, .int .i64 (s.c + 1)] rfl (reads_two _ _ _ _) (by simp [Value.oneCell']) (by unfold maxLen; omega) (by omega) (by have := G7.out.size; simp; omega) ?_; intro a' c' w' hv' hg' hat'; have HV' := Lib.hid hv'; have HG' := Lib.hid hg'; clear hv' hg' hat'))
          go_meet
          case rel =>
            rw [HWT.out]
            exact ⟨a', c', rfl, HV'.out, (G7.out.alloc _).grown HG'.out (fun j hj => .inr (V7.out.lt hj).1)⟩
        | false =>
          have HWT : Hid (w1Of es s = []) := Lib.hid (by simpa using HW1.out)
          clear HW1
          go_wp2_with fail
          go_meet
          case rel =>
            rw [HWT.out]
            exact ⟨_, 0, rfl, V7.out, G7.out⟩
      case rest =>
        obtain ⟨aw, cw, rfl, hV, hf⟩ := hcut
        obtain ⟨w8, rfl⟩ : ∃ W, W = wc := ⟨_, rfl⟩
        have V8 := Lib.hid hV
        have G8 := Lib.hid hf
        have B8 := Lib.hid (B5.out.fr hf (by simp))
        have H8 := Lib.hid (H5.out.fr0 hf)
        clear hV hf s0 s1 B7 H7 V7 G7 HW1
        have s0 := B8.out.cell_at (o := 0) rfl
        have s1 := B8.out.cell_at (o := 1) rfl
        have hw1l : (w1Of es s).length ≤ 1 := by
          unfold w1Of
          split
          · split
            · split <;> simp
            · simp
          · simp
        go_upto_region 9 with (fail)
        go_cut [73] (fun v73 wc => v73 = .bool (!(few es s)) ∧ ∃ q, wc = w8.drewN q)
        case first =>
          rcases HEE.out with ⟨hse, hsc⟩ | ⟨j, e, hse, hej, hc1, hc4⟩
          · have hfew : few es s = false := by unfold few; rw [hse]; rfl
            have HFEW := Lib.hid hfew
            rw [hse] at s0
            clear hse hsc hfew
            refine wp_region_tree_np (fun W => W.cell? ⟨sb, 0, none⟩ = some (.int .i64 (-1))) (.on 0 (.on 1 (.on 2 (.on 3 (.on 4 (.on 5 (.on 6 (.on 7 (.on 8 (.on 9 (.on 10 (.on 11 (.on 12 (.on 13 (.on 14 .nil))))))))))))))) (by kernel_rfl) (by kernel_rfl) s0 ?_
            iterate 15 (first | (refine ht_on (o := ?_) (v := ?_) ?_ ?_ (fun w hSw => ?_) ?_; rotate_left 2; (focus ((simp only [List.getElem?_toArray, List.getElem?_cons_succ, List.getElem?_cons_zero]); (try rfl); done)); (focus (rfl)); (focus (((try obtain _ := hSw); (try dsimp only at hSw); go_simp; (try with_reducible rfl)); done)); simp only [Act.put, List.setIfInBounds_toArray, List.set_cons_zero, List.set_cons_succ]) | (refine ht_off_light (o := ?_) ?_ ?_ ?_; rotate_left 1; (focus ((simp only [List.getElem?_toArray, List.getElem?_cons_succ, List.getElem?_cons_zero]); (try rfl); done)); (focus (rfl)); simp only [Act.put, List.setIfInBounds_toArray, List.set_cons_zero, List.set_cons_succ]))
            refine ht_done_np ?_
            go_wp2_with fail
            go_meet
            case rel => exact ⟨by rw [HFEW.out]; rfl, 1, rfl⟩
          · have hfew : few es s = decide (s.c < e.mn) := by unfold few; rw [hse, if_pos (by omega), Int.toNat_natCast, hej]
            have HFEW := Lib.hid hfew
            rw [hse] at s0
            obtain ⟨b, o, rfl⟩ := H8.out.els.rec_addr El.len (by omega) hej
            have hc3 : w8.cell? ⟨b, o + j * 6 + 3, none⟩ = some (.int .i64 e.mn) := H8.out.els.rec El.len hej rfl
            have q0 := H8.out.top.cell_at (o := 0) rfl
            have hj0' : decide ((j : Int) < 0) = false := decide_eq_false (by omega)
            have hjI : j < es.length := (List.getElem?_eq_some_iff.1 hej).1
            obtain ⟨t9, ht⟩ : ∃ t, decide (e.mn ≤ s.c) = t := ⟨_, rfl⟩
            have HT := Lib.hid ht
            clear hse hej hfew
            go_quiet (fail)
            go_wp2_with fail
            go_meet
            case rel => exact ⟨by rw [HFEW.out, ← HT.out]; congr 1; by_cases h : s.c < e.mn <;> simp [h] <;> omega, _, rfl⟩
        case rest =>
          obtain ⟨rfl, q, rfl⟩ := hcut
          obtain ⟨w9, hw9⟩ : ∃ W, W = w8.drewN q := ⟨_, rfl⟩
          have hf9 : Fr [] w8 w9 := by rw [hw9]; exact (Fr.refl _ _).drewN _
          rw [← hw9]
          clear hw9
          have V9 := Lib.hid (V8.out.fr0 hf9)
          have H9 := Lib.hid (H8.out.fr0 hf9)
          have G9 := Lib.hid (G8.out.trans0 hf9)
          have s0 : w9.cell? ⟨sb, 0, none⟩ = some (.int .i64 s.e) := hf9.cell s0 (by simp)
          clear hf9 s1 B8 H8 V8 G8
          go_upto_if 73 with (fail)
          go_cut [10, 11] (fun v10 v11 wc => ∃ (aw : Option Addr) (cw : Nat), v10 = .slice aw (wantOf es s).length cw ∧ View wc w5.heap.size 100 2 (.slice aw (wantOf es s).length cw) (wantOf es s).length ((wantOf es s).flatMap Sta.cells) ∧ Fr [] w5 wc)
          case first =>
            cases hfw : few es s with
            | true =>
              have HWW : Hid (wantOf es s = w1Of es s) := Lib.hid (by unfold wantOf w2Of; rw [if_pos hfw, List.append_nil])
              clear hfw
              go_wp2_with fail
              go_meet
              case rel =>
                rw [HWW.out]
                exact ⟨aw, cw, rfl, V9.out, G9.out⟩
            | false =>
              obtain ⟨m0, hm0⟩ : ∃ q, q = (s.e + 1).toNat := ⟨_, rfl⟩
              have hse1 : s.e + 1 = (m0 : Int) ∧ m0 ≤ es.length := by
                rcases HEE.out with ⟨h, _⟩ | ⟨j, e, h, hej, _⟩
                · omega
                · have := (List.getElem?_eq_some_iff.1 hej).1
                  omega
              have HWW : Hid (wantOf es s = w1Of es s ++ if 0 ≤ nextOf es m0 then [⟨nextOf es m0, 1⟩] else []) := Lib.hid (by unfold wantOf w2Of; rw [hfw, if_neg (by simp), ← hm0])
              obtain ⟨hse1, hm0l⟩ := hse1
              have HSE1 := Lib.hid hse1
              have q0 := H9.out.top.cell_at (o := 0) rfl
              clear hfw hm0
              go_upto_block 0 with (fail)
              clear hse1
              go_wp2_with fail
              go_loopw [10, 11] (fun v10 v11 wr => ∃ j : Nat, v11 = .int .i64 j ∧ j ≤ es.length ∧ nextOf es j = nextOf es m0 ∧ v10 = .slice aw (w1Of es s).length cw ∧ wr = w9) (fun _ v11 _ => es.length - (intOf v11).toNat)
              case atStart => exact ⟨m0, rfl, hm0l, rfl, rfl, rfl⟩
              case round =>
                obtain ⟨j, rfl, hj, hnx, rfl, rfl⟩ := hrel
                have HNX := Lib.hid hnx
                clear hnx
                by_cases hjl : j < es.length
                · obtain ⟨e, hej⟩ : ∃ e, es[j]? = some e := ⟨_, List.getElem?_eq_getElem hjl⟩
                  obtain ⟨b, o, rfl⟩ := H9.out.els.rec_addr El.len (by omega) hej
                  have hc2 : wr.cell? ⟨b, o + j * 6 + 2, none⟩ = some (.bool e.neg) := H9.out.els.rec El.len hej rfl
                  cases hn : e.neg with
                  | true =>
                    have HN2 := Lib.hid ((nextOf_go hej hn).symm.trans HNX.out)
                    rw [hn] at hc2
                    clear hej hn
                    go_wp2_with fail
                    go_roundw
                    case rel => exact ⟨j + 1, by go_num, by omega, HN2.out, rfl, by first | rfl | trivial⟩
                    case measure => simp [intOf]; omega
                  | false =>
                    have HN2 : Hid (nextOf es m0 = (j : Int)) := Lib.hid (HNX.out.symm.trans (nextOf_stop hej hn))
                    rw [hn] at hc2
                    clear hej hn
                    go_wp2_with (first | (at_builtin; refine wpList_append_view _ rfl _ _ 103 rfl w5.heap.size 100 i0 (.agg #[.int .i64 0, .int .i64 0]) 2 16 Try.underlying103 hi0 hz0 hz1 hz2 rfl _ _ (w1Of es s).length _ rfl (V9.out.fr0 ((Fr.refl _ _).alloc _)) _ 1 [.int .i64 (j : Int), .int .i64 1] rfl (reads_two _ _ _ _) (by simp [Value.oneCell']) (by unfold maxLen; omega) (by omega) (by have := G9.out.size; simp; omega) ?_; intro a' c' w' hv' hg' hat'; have HV' := Lib.hid hv'; have HG' := Lib.hid hg'; clear hv' hg' hat'))
                    go_meet
                    case rel =>
                      rw [HWW.out, HN2.out, if_pos (by omega)]
                      refine ⟨a', c', by rw [List.length_append]; rfl, ?_, (G9.out.alloc _).grown HG'.out (fun g hg => .inr (V9.out.lt hg).1)⟩
                      rw [List.length_append, List.flatMap_append]
                      exact HV'.out
                · have HN2 : Hid (nextOf es m0 = -1) := Lib.hid (HNX.out.symm.trans (nextOf_end (by omega)))
                  go_wp2_with fail
                  go_meet
                  case rel =>
                    rw [HWW.out, HN2.out, if_neg (by omega), List.append_nil]
                    exact ⟨aw, cw, rfl, V9.out, G9.out⟩
          case rest =>
            obtain ⟨ax, cx, rfl, hV, hf⟩ := hcut
            obtain ⟨w10, rfl⟩ : ∃ W, W = wc := ⟨_, rfl⟩
            have V10 := Lib.hid hV.reads
            have F10 := Lib.hid (F5.out.trans0 hf)
            have B10 := Lib.hid (B5.out.fr hf (by simp))
            have H10 := Lib.hid (H5.out.fr0 hf)
            clear hV hf s0 H9 V9 G9 hw1l B5 H5 F5
            have HES : Hid (s.e = -1 ∨ ∃ (i : Nat) (e : El), s.e = (i : Int) ∧ es'[i]? = some e) := Lib.hid (by
              rcases HEE.out with ⟨h, _⟩ | ⟨j, e, h, hej, _⟩
              · exact .inl h
              · obtain ⟨e', he', _⟩ := like_get HLK.out hej
                exact .inr ⟨j, e', h, he'⟩)
            have HCC : Hid (0 ≤ s.c ∧ s.c ≤ 1000) := Lib.hid (by rcases HEE.out with ⟨_, h⟩ | ⟨_, _, _, _, h, h'⟩ <;> omega)
            go_wp2_with fail
            refine (moves_in nb es' sts a' c' win cap al cl i s w10 H10.out.nfa HSI.out HES.out (by have := HLK.out.1; omega) hL17 HCC.out).mono ?_
            rintro _ w11 ⟨am, cm, rfl, hV, hf⟩
            rw [like_moves HLK.out, HSTS.out, (want_is HFI.out (by have := List.mem_of_getElem? HSI.out; rw [HSTS.out] at this; exact this)).1, ← HSTS.out, List.length_map] at hV
            rw [like_moves HLK.out, HSTS.out, (want_is HFI.out (by have := List.mem_of_getElem? HSI.out; rw [HSTS.out] at this; exact this)).1, ← HSTS.out, List.length_map]
            have M11 := Lib.hid hV.reads
            have V11 := Lib.hid (V10.out.fr0 hf)
            have F11 := Lib.hid (F10.out.trans0 hf)
            have B11 := Lib.hid (B10.out.fr hf (by simp))
            have H11 := Lib.hid (H10.out.fr0 hf)
            clear hV hf V10 F10 B10 H10 HES HCC
            go_wp2_with fail
            go_loopw [13, 14, 15] (fun v13 v14 v15 wr => ∃ j : Nat, v13 = .int .i64 j ∧ j ≤ (wantOf es s).length ∧ Fr [] w11 wr) (fun v13 _ _ _ => (wantOf es s).length - (intOf v13).toNat)
            case atStart => exact ⟨0, rfl, Nat.zero_le _, Fr.refl _ _⟩
            case round =>
              obtain ⟨j, rfl, hj, hf⟩ := hrel
              have G := Lib.hid hf
              clear hf
              by_cases hjl : j < (wantOf es s).length
              · obtain ⟨x, hx⟩ : ∃ x, (wantOf es s)[j]? = some x := ⟨_, List.getElem?_eq_getElem hjl⟩
                have hxm := HW.out.2 x (List.mem_of_getElem? hx)
                obtain ⟨p, hp, hsp⟩ : ∃ p : Nat, idx sts x = (p : Int) ∧ sts[p]? = some x := by
                  rcases idx_is sts x with ⟨_, h⟩ | ⟨p, h1, h2⟩
                  · exact absurd hxm h
                  · exact ⟨p, h1, h2⟩
                obtain ⟨b1, o1, rfl, hm1⟩ := ints_at (M11.out.fr0 G.out) (j := j) (x := (p : Int)) (by rw [List.getElem?_map, hx]; exact congrArg some hp)
                obtain ⟨b2, o2, rfl⟩ := V11.out.rec_addr Sta.len (by omega) hx
                have HX := Lib.hid hx
                have HSP := Lib.hid hsp
                have hjI : (j : Int) < ((wantOf es s).length : Int) := by omega
                clear hx hxm hp hsp
                go_wp2_with fail
                refine (at_in nb cl al sts p x wr ((H11.out.fr0 G.out).nfa.top.cell_at (o := 3) rfl) (H11.out.fr0 G.out).nfa.stas HSP.out).mono ?_
                rintro _ w12 ⟨rfl, hf⟩
                have G12 := Lib.hid (G.out.trans0 hf)
                clear hf hm1
                go_upto_region 22 with (fail)
                have hb := Blk.new w12 [.int .i64 x.e, .int .i64 x.c] 100
                have x0 := hb.cell_at (o := 0) rfl
                have x1 := hb.cell_at (o := 1) rfl
                have G13 : Hid (Fr [] w11 (w12.alloc (.cells [.int .i64 x.e, .int .i64 x.c].toArray 100))) := Lib.hid (G12.out.alloc _)
                have y0 := (V11.out.fr0 G13.out).rec Sta.len HX.out (k := 0) rfl
                have y1 := (V11.out.fr0 G13.out).rec Sta.len HX.out (k := 1) rfl
                rw [Nat.add_zero] at y0
                clear hb
                obtain ⟨w13, hw13⟩ : ∃ W, W = w12.alloc (.cells [.int .i64 x.e, .int .i64 x.c].toArray 100) := ⟨_, rfl⟩
                rw [← hw13] at x0 x1 y0 y1 G13
                rw [show w12.alloc (.cells #[.int .i64 x.e, .int .i64 x.c] 100) = w13 from hw13.symm]
                clear hw13
                go_quiet (fail)
                go_wp2_with fail
                go_roundw
                case rel => exact ⟨j + 1, by go_num, by omega, G13.out.drewN _⟩
                case measure => simp [intOf]; omega
              · go_wp2_with fail
                have BS := Lib.hid (B11.out.fr G.out (by simp))
                have FZ := Lib.hid (F11.out.trans0 G.out)
                refine (awake_any _).mono ?_
                rintro _ x1 ⟨rfl, hf⟩
                have T1 := Lib.hid (FZ.out.trans0 hf)
                have BS1 := Lib.hid (BS.out.fr hf (by simp))
                clear hf
                have s0 := BS1.out.cell_at (o := 0) rfl
                have s1 := BS1.out.cell_at (o := 1) rfl
                go_wp2_with (first | (go_at_call 58; refine (len_nil _).mono ?_; rintro e w' ⟨rfl, rfl⟩))
                refine (find_nil s _).mono ?_
                rintro _ x2 ⟨rfl, hf⟩
                have T2 := Lib.hid (T1.out.trans0 hf)
                clear hf s0 s1 T1 BS1
                go_wp2_with fail
                refine (moves_nil _).mono ?_
                rintro _ x3 ⟨rfl, hf⟩
                have T3 := Lib.hid (T2.out.trans0 hf)
                clear hf T2
                go_wp2_with fail
                refine (ends_nil _).mono ?_
                rintro _ x4 ⟨rfl, hf⟩
                have T4 := Lib.hid (T3.out.trans0 hf)
                clear hf T3
                go_wp2_with fail
                refine (query_nil _).mono ?_
                rintro _ x5 ⟨rfl, hf⟩
                have T5 := Lib.hid (T4.out.trans0 hf)
                clear hf T4
                go_wp2_with fail
                go_ret
                exact ⟨rfl, T5.out⟩
end Go.Proofs.Ytcnoaflojojfkab.NfaMoves
