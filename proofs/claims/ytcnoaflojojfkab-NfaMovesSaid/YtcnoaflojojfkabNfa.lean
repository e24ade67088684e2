/- nfa.Nfa in memory: New, Len, At, Find. No condition. -/
import Derived.Test.YtcnoaflojojfkabNfaModel
import Derived.Test.YtcnoaflojojfkabCopy
import Derived.Laws.ResultCell
namespace Go.Proofs.Ytcnoaflojojfkab.Nfa
open Go.RowKit Go.Proofs.Ytcnoaflojojfkab.Pat Go.Proofs.Ytcnoaflojojfkab.Qry
set_option linter.unusedVariables false
set_option linter.unusedSimpArgs false
set_option maxRecDepth 100000

theorem ret_cell_tmp {P : Program} {fn : Func} {R : Ending → World → Prop} {A : Act} {w : World} {p u : Tmp} {ty t : TypeId} {g : Nat} {cs : List Value} {d : TypeDesc} (hb : Blk w g cs t) (h : fn.results = #[.cell p ty, .tmp u])
    (hp : A.tmps.getD p undef = .pointer (some ⟨g, 0, none⟩)) (hu : P.underlying ty = some d) (hd : (match d with | .struct _ | .array _ _ => true | _ => false) = true) (hi : (P.info? ty).map (·.size) = some cs.length)
    (hdf : A.defers = []) (hR : R (.returned (.tuple #[.agg cs.toArray, A.tmps.getD u undef])) w) : bodyPost P fn R .ret A w :=
  bodyPost_ret (v := .tuple #[.agg cs.toArray, A.tmps.getD u undef]) (by
    rw [results_cell_tmp h, hp]
    simp [asAddr, run_loadVar_row w g t ty cs.toArray (0, 0) d hb hu hd (by simpa using hi)]) hdf hR
/-- an Nfa in memory: its block, its query's elements, its states -/
structure Nf (W : World) (nb : Nat) (es : List El) (sts : List Sta) (a : Option Addr) (c : Nat) (win cap : Int) (al : Option Addr) (cl : Nat) : Prop where
  top : Blk W nb [.slice a es.length c, .int .i64 win, .int .i64 cap, .slice al sts.length cl] 132
  els : Reads W 6 (.slice a es.length c) es.length (qcells es)
  stas : Reads W 2 (.slice al sts.length cl) sts.length (sts.flatMap Sta.cells)
theorem Nf.fr0 {W W' : World} {nb : Nat} {es : List El} {sts : List Sta} {a : Option Addr} {c : Nat} {win cap : Int} {al : Option Addr} {cl : Nat} (h : Nf W nb es sts a c win cap al cl) (hf : Fr [] W W') : Nf W' nb es sts a c win cap al cl :=
  ⟨h.top.fr hf (by simp), h.els.fr0 hf, h.stas.fr0 hf⟩
theorem len_nil (w : World) : Calls Try.prog 58 #[.pointer none] w fun e w' => e = .returned (.int .i64 0) ∧ w = w' := by
  go_enter Try.func58, Try.ntmps58
  go_wp2
  go_ret
  exact ⟨rfl, rfl⟩
theorem len_any (nb n c : Nat) (a : Option Addr) (w : World) (h : w.cell? ⟨nb, 3, none⟩ = some (.slice a n c)) : Calls Try.prog 58 #[.pointer (some ⟨nb, 0, none⟩)] w fun e w' => e = .returned (.int .i64 n) ∧ w = w' := by
  go_enter Try.func58, Try.ntmps58
  go_wp2
  go_ret
  exact ⟨rfl, rfl⟩
theorem at_out (nb n c : Nat) (a : Option Addr) (k : Int) (w : World) (h : w.cell? ⟨nb, 3, none⟩ = some (.slice a n c)) (hk : k < 0 ∨ (n : Int) ≤ k) : Calls Try.prog 59 #[.pointer (some ⟨nb, 0, none⟩), .int .i64 k] w fun e w' =>
    e = .returned (.tuple #[.agg #[.int .i64 0, .int .i64 0], .bool false]) ∧ Fr [] w w' := by
  have HB := Lib.hid (Blk.new w [.int .i64 0, .int .i64 0] 100)
  by_cases c0 : k < 0
  · clear hk
    go_enter Try.func59, Try.ntmps59
    go_wp2_with fail
    try simp only [Exit.inBlock, Exit.then]
    refine ret_cell_tmp HB.out rfl rfl Try.underlying100 rfl (by kernel_rfl) rfl ?_
    exact ⟨rfl, (Fr.refl _ _).alloc _⟩
  · have hk' : (n : Int) ≤ k := by omega
    have hd : decide ((n : Int) ≤ k) = true := decide_eq_true hk'
    have hd0 : decide (k < 0) = false := decide_eq_false c0
    have h2 := fun ob => (World.cell?_alloc_lt w ob _ (World.block_lt_of_cell? w _ h)).trans h
    clear hk
    go_enter Try.func59, Try.ntmps59
    go_wp2_with (first | (go_at_call 58; refine (len_any nb n c a _ (h2 _)).mono ?_; rintro e w' ⟨rfl, rfl⟩))
    try simp only [Exit.inBlock, Exit.then]
    refine ret_cell_tmp HB.out rfl rfl Try.underlying100 rfl (by kernel_rfl) rfl ?_
    exact ⟨rfl, (Fr.refl _ _).alloc _⟩
theorem at_in (nb c : Nat) (a : Option Addr) (l : List Sta) (k : Nat) (x : Sta) (w : World) (h : w.cell? ⟨nb, 3, none⟩ = some (.slice a l.length c)) (hR : Reads w 2 (.slice a l.length c) l.length (l.flatMap Sta.cells)) (hx : l[k]? = some x) :
    Calls Try.prog 59 #[.pointer (some ⟨nb, 0, none⟩), .int .i64 k] w fun e w' => e = .returned (.tuple #[.agg #[.int .i64 x.e, .int .i64 x.c], .bool true]) ∧ Fr [] w w' := by
  have HB := Lib.hid (Blk.new w [.int .i64 x.e, .int .i64 x.c] 100)
  have hk : k < l.length := (List.getElem?_eq_some_iff.1 hx).1
  have hd0 : decide ((k : Int) < 0) = false := decide_eq_false (by omega)
  have hd : decide ((l.length : Int) ≤ (k : Int)) = false := decide_eq_false (by omega)
  obtain ⟨b, o, rfl⟩ := hR.rec_addr Sta.len (by omega) hx
  have c0 : w.cell? ⟨b, o + k * 2, none⟩ = some (.int .i64 x.e) := by have := hR.rec Sta.len hx (k := 0) rfl; simpa using this
  have c1 : w.cell? ⟨b, o + k * 2 + 1, none⟩ = some (.int .i64 x.c) := hR.rec Sta.len hx rfl
  have h2 := fun ob => (World.cell?_alloc_lt w ob _ (World.block_lt_of_cell? w _ h)).trans h
  have c2 := fun ob => (World.cell?_alloc_lt w ob _ (World.block_lt_of_cell? w _ c0)).trans c0
  have c3 := fun ob => (World.cell?_alloc_lt w ob _ (World.block_lt_of_cell? w _ c1)).trans c1
  clear hR hx
  go_enter Try.func59, Try.ntmps59
  go_wp2_with (first | (go_at_call 58; refine (len_any nb l.length c _ _ (h2 _)).mono ?_; rintro e w' ⟨rfl, rfl⟩))
  try simp only [Exit.inBlock, Exit.then]
  refine ret_cell_tmp HB.out rfl rfl Try.underlying100 rfl (by kernel_rfl) rfl ?_
  exact ⟨rfl, (Fr.refl _ _).alloc _⟩
set_option maxHeartbeats 1000000 in
theorem index_any (l : List Sta) (x : Sta) (a : Option Addr) (c : Nat) (w : World) (hR : Reads w 2 (.slice a l.length c) l.length (l.flatMap Sta.cells)) (hl : l.length ≤ 1000) :
    Calls Try.prog 90 #[.slice a l.length c, .agg #[.int .i64 x.e, .int .i64 x.c]] w fun e w' => e = .returned (.int .i64 (idx l x)) ∧ Fr [] w w' := by
  have HR := Lib.hid hR
  have HBX := Lib.hid (Blk.new w [.int .i64 x.e, .int .i64 x.c] 100)
  clear hR
  go_enter Try.func90, Try.ntmps90
  go_wp2_with fail
  go_loopw [5, 8] (fun v5 v8 wr => ∃ k : Nat, v8 = .int .i64 k ∧ k ≤ l.length ∧ find l x (l.length - k) = idx l x ∧ Fr [] (w.alloc (.cells [.int .i64 x.e, .int .i64 x.c].toArray 100)) wr) (fun _ v8 _ => l.length - (intOf v8).toNat)
  case atStart => exact ⟨0, rfl, Nat.zero_le _, rfl, Fr.refl _ _⟩
  case round =>
    obtain ⟨k, rfl, hk, hfd, hF⟩ := hrel
    have HFD := Lib.hid hfd
    have HF := Lib.hid hF
    clear hfd hF
    have HFW : Hid (Fr [] w wr) := Lib.hid (((Fr.refl [] w).alloc _).trans0 HF.out)
    by_cases hkl : k < l.length
    · obtain ⟨y, hy⟩ : ∃ y, l[k]? = some y := ⟨_, List.getElem?_eq_getElem hkl⟩
      obtain ⟨b, o, rfl⟩ := HR.out.rec_addr Sta.len (by omega) hy
      have y0 : wr.cell? ⟨b, o + k * 2, none⟩ = some (.int .i64 y.e) := by have := (HR.out.fr0 HFW.out).rec Sta.len hy (k := 0) rfl; simpa using this
      have y1 : wr.cell? ⟨b, o + k * 2 + 1, none⟩ = some (.int .i64 y.c) := (HR.out.fr0 HFW.out).rec Sta.len hy rfl
      have hb := HBX.out.fr HF.out (by simp)
      have x0 : wr.cell? ⟨w.heap.size, 0, none⟩ = some (.int .i64 x.e) := hb.cell_at rfl
      have x1 : wr.cell? ⟨w.heap.size, 1, none⟩ = some (.int .i64 x.c) := hb.cell_at rfl
      clear hb
      by_cases hxy : x.e = y.e ∧ x.c = y.c
      · have HN : Hid ((k : Int) = idx l x) := Lib.hid ((find_hit hy hxy).symm.trans HFD.out)
        obtain ⟨e1, e2⟩ := hxy
        rw [e1] at x0
        rw [e2] at x1
        clear hy e1 e2
        go_upto_region 4 with (fail)
        go_quiet (fail)
        go_wp2_with fail
        go_ret
        exact ⟨ret_int HN.out, HFW.out.drewN _⟩
      · have HN := Lib.hid ((find_miss hy hxy).symm.trans HFD.out)
        by_cases he : x.e = y.e
        · have hcc : (x.c == y.c) = false := by rw [beq_eq_false_iff_ne]; exact fun h => hxy ⟨he, h⟩
          have hcc' : ¬ (x.c = y.c) := fun h => hxy ⟨he, h⟩
          rw [he] at x0
          clear hy hxy he
          go_upto_region 4 with (fail)
          go_quiet (fail)
          go_wp2_with fail
          go_roundw
          case rel => exact ⟨k + 1, by go_num, by omega, HN.out, HF.out.drewN _⟩
          case measure => simp [intOf]; omega
        · have hcc : (x.e == y.e) = false := by rw [beq_eq_false_iff_ne]; exact he
          clear hy hxy
          go_upto_region 4 with (fail)
          go_quiet (fail)
          go_wp2_with fail
          go_roundw
          case rel => exact ⟨k + 1, by go_num, by omega, HN.out, HF.out.drewN _⟩
          case measure => simp [intOf]; omega
    · have HN : Hid (-1 = idx l x) := Lib.hid (by have := HFD.out; rw [show l.length - k = 0 by omega] at this; exact this)
      go_wp2_with fail
      go_ret
      exact ⟨ret_int HN.out, HFW.out⟩
theorem find_nil (x : Sta) (w : World) : Calls Try.prog 62 #[.pointer none, .agg #[.int .i64 x.e, .int .i64 x.c]] w fun e w' => e = .returned (.int .i64 (-1)) ∧ Fr [] w w' := by
  go_enter Try.func62, Try.ntmps62
  go_wp2
  go_ret
  exact ⟨rfl, (Fr.refl _ _).alloc _⟩
set_option maxHeartbeats 1000000 in
theorem find_any (nb : Nat) (l : List Sta) (x : Sta) (a : Option Addr) (c : Nat) (w : World) (h : w.cell? ⟨nb, 3, none⟩ = some (.slice a l.length c)) (hR : Reads w 2 (.slice a l.length c) l.length (l.flatMap Sta.cells)) (hl : l.length ≤ 1000) :
    Calls Try.prog 62 #[.pointer (some ⟨nb, 0, none⟩), .agg #[.int .i64 x.e, .int .i64 x.c]] w fun e w' => e = .returned (.int .i64 (idx l x)) ∧ Fr [] w w' := by
  have HR := Lib.hid hR
  have HFA : Hid (Fr [] w (w.alloc (.cells [.int .i64 x.e, .int .i64 x.c].toArray 100))) := Lib.hid ((Fr.refl _ _).alloc _)
  have h3 := HFA.out.cell h (by simp)
  have hb := Blk.new w [.int .i64 x.e, .int .i64 x.c] 100
  have x0 := hb.cell_at (o := 0) rfl
  have x1 := hb.cell_at (o := 1) rfl
  clear hR h hb
  go_enter Try.func62, Try.ntmps62
  go_upto_region 3 with (fail)
  refine wp_region_tree_np (fun W => W.cell? ⟨nb, 3, none⟩ = some (.slice a l.length c) ∧ W.cell? ⟨w.heap.size, 0, none⟩ = some (.int .i64 x.e) ∧ W.cell? ⟨w.heap.size, 1, none⟩ = some (.int .i64 x.c)) (.on 0 (.on 1 (.on 2 (.on 3 (.on 4 (.one 5 (.on 6 .nil))))))) (by kernel_rfl) (by kernel_rfl) ⟨h3, x0, x1⟩ ?_
  iterate 5 (first | (refine ht_on (o := ?_) (v := ?_) ?_ ?_ (fun w hSw => ?_) ?_; rotate_left 2; (focus ((simp only [List.getElem?_toArray, List.getElem?_cons_succ, List.getElem?_cons_zero]); (try rfl); done)); (focus (rfl)); (focus (((try obtain ⟨s0, s1, s2⟩ := hSw); (try dsimp only at hSw); go_simp; (try with_reducible rfl)); done)); simp only [Act.put, List.setIfInBounds_toArray, List.set_cons_zero, List.set_cons_succ]) | (refine ht_off_light (o := ?_) ?_ ?_ ?_; rotate_left 1; (focus ((simp only [List.getElem?_toArray, List.getElem?_cons_succ, List.getElem?_cons_zero]); (try rfl); done)); (focus (rfl)); simp only [Act.put, List.setIfInBounds_toArray, List.set_cons_zero, List.set_cons_succ]))
  refine ht_one (o := ?_) ?_ ?_ (fun K hK => ?_)
  rotate_left 1
  (focus ((simp only [List.getElem?_toArray, List.getElem?_cons_succ, List.getElem?_cons_zero]); (try rfl); done))
  focus (rfl)
  go_simp
  refine (index_any l x a c _ (HR.out.fr0 HFA.out.drew) hl).mono ?_
  rintro e w2 ⟨rfl, hf⟩
  have F2 : Hid (Fr [] w w2) := Lib.hid (HFA.out.drew.trans0 hf)
  refine hK.out _ _ ⟨hf.cell (by exact h3) (by simp), hf.cell (by exact x0) (by simp), hf.cell (by exact x1) (by simp)⟩ (fun _ => ?_)
  try simp only [Act.put, List.setIfInBounds_toArray, List.set_cons_zero, List.set_cons_succ]
  iterate 1 (first | (refine ht_on (o := ?_) (v := ?_) ?_ ?_ (fun w hSw => ?_) ?_; rotate_left 2; (focus ((simp only [List.getElem?_toArray, List.getElem?_cons_succ, List.getElem?_cons_zero]); (try rfl); done)); (focus (rfl)); (focus (((try obtain ⟨s0, s1, s2⟩ := hSw); (try dsimp only at hSw); go_simp; (try with_reducible rfl)); done)); simp only [Act.put, List.setIfInBounds_toArray, List.set_cons_zero, List.set_cons_succ]) | (refine ht_off_light (o := ?_) ?_ ?_ ?_; rotate_left 1; (focus ((simp only [List.getElem?_toArray, List.getElem?_cons_succ, List.getElem?_cons_zero]); (try rfl); done)); (focus (rfl)); simp only [Act.put, List.setIfInBounds_toArray, List.set_cons_zero, List.set_cons_succ]))
  refine ht_done_np ?_
  clear hf
  go_wp2_with fail
  go_ret
  exact ⟨rfl, F2.out⟩

/-- the least that is so of a query's elements here -/
def Fine (es : List El) : Prop := es.length ≤ 4 ∧ ∀ e ∈ es, 1 ≤ e.mx ∧ e.mx ≤ 4
def nm (n : Nat) : Value → Nat
  | .int _ x => if x < 0 then 0 else n + 1 - x.toNat
  | _ => 0
theorem nm_lt {es : List El} {r : Nat} (hr : r < es.length) : nm es.length (.int .i64 (nextOf es (r + 1))) < nm es.length (.int .i64 (r : Int)) := by
  have h0 : nm es.length (.int .i64 (r : Int)) = es.length + 1 - r := by
    show (if ((r : Int) < 0) then 0 else es.length + 1 - ((r : Int)).toNat) = _
    rw [if_neg (by omega), Int.toNat_natCast]
  rw [h0]
  rcases upto_next es _ (r + 1) rfl (by omega) with ⟨h, _⟩ | ⟨r', e, h, h1, h2, _⟩
  · rw [h]; show (0 : Nat) < _; omega
  · rw [h]
    have h3 := (List.getElem?_eq_some_iff.1 h2).1
    show (if ((r' : Int) < 0) then 0 else es.length + 1 - ((r' : Int)).toNat) < _
    rw [if_neg (by omega), Int.toNat_natCast]; omega
theorem info_state : (Try.prog.info? 100).map (fun i => (i.zero, i.size, i.bytes)) = some (some (.agg #[.int .i64 0, .int .i64 0]), 2, 16) := by kernel_rfl
theorem reads_two (w : World) (v0 v1 : Value) (t : TypeId) : Reads (w.alloc (.cells #[v0, v1] t)) 2 (.slice (some ⟨w.heap.size, 0, none⟩) 1 1) 1 [v0, v1] :=
  ⟨rfl, _, 1, rfl, Nat.le_refl _, .inr ⟨_, _, rfl, fun j u hu => by
    have := (Blk.new w [v0, v1] t).cell (0 + j)
    rw [this, Nat.zero_add]; exact hu⟩⟩
set_option maxHeartbeats 8000000 in
theorem new_any (es : List El) (a : Option Addr) (c : Nat) (win cap : Int) (w : World) (hR : Reads w 6 (.slice a es.length c) es.length (qcells es)) (hH : ∀ e ∈ es, Sees w e) (hfi : Fine es) :
    Calls Try.prog 57 #[.agg #[.slice a es.length c, .int .i64 win, .int .i64 cap]] w fun e w' => ∃ (nb : Nat) (es' : List El) (a' : Option Addr) (c' : Nat) (al : Option Addr) (cl : Nat), e = .returned (.pointer (some ⟨nb, 0, none⟩)) ∧ Like es es' ∧
      Nf w' nb es' (upto es es.length) a' c' win cap al cl ∧ Fr [] w w' := by
  obtain ⟨i0, hi0, hz0, hz1, hz2⟩ := info_parts info_state
  have HR := Lib.hid hR
  have HH := Lib.hid hH
  obtain ⟨hl, hfe⟩ := hfi
  have HFE := Lib.hid hfe
  clear hR hH hfe
  go_enter Try.func57, Try.ntmps57
  go_wp2_with fail
  have hb1 := Blk.new w [.slice a es.length c, .int .i64 win, .int .i64 cap] 67
  have hf1 : Fr [] w (w.alloc (.cells [.slice a es.length c, .int .i64 win, .int .i64 cap].toArray 67)) := (Fr.refl _ _).alloc _
  have hsees : ∀ e ∈ es, Sees (w.alloc (.cells [.slice a es.length c, .int .i64 win, .int .i64 cap].toArray 67)) e := fun e he => by
    obtain ⟨⟨ts, h1, h2⟩, ns, h3, h4⟩ := HH.out e he
    exact ⟨⟨ts, h1, h2.fr0 hf1⟩, ns, h3, h4.fr0 hf1⟩
  refine (copy_any es a c win cap _ (HR.out.fr0 hf1) hsees hl).mono ?_
  rintro _ wc ⟨es', a', c', rfl, hLk, hV, hf⟩
  have HLK := Lib.hid hLk
  have HQ := Lib.hid (hb1.fr hf (by simp))
  have HVE := Lib.hid hV.reads
  have HFC := Lib.hid (hf1.trans0 hf)
  clear hb1 hf1 hsees hLk hV hf HH
  go_upto_region 2 with (fail)
  have hn2 := new2 wc [.int .i64 (-1), .int .i64 0] 100 [.slice a' es'.length c', .int .i64 win, .int .i64 cap, .slice (some ⟨wc.heap.size, 0, none⟩) 1 1] 132
  obtain ⟨wd, hwd⟩ : ∃ W, W = (wc.alloc (.cells [.int .i64 (-1), .int .i64 0].toArray 100)).alloc (.cells [.slice a' es'.length c', .int .i64 win, .int .i64 cap, .slice (some ⟨wc.heap.size, 0, none⟩) 1 1].toArray 132) := ⟨_, rfl⟩
  rw [← hwd] at hn2
  rw [show (wc.alloc (.cells #[.int .i64 (-1), .int .i64 0] 100)).alloc (.cells #[.slice a' es'.length c', .int .i64 win, .int .i64 cap, .slice (some ⟨wc.heap.size, 0, none⟩) 1 1] 132) = wd from hwd.symm]
  clear hwd
  obtain ⟨hs1, hs2, hs3⟩ := hn2
  have HSV : Hid (View wd wc.heap.size 100 2 (.slice (some ⟨wc.heap.size, 0, none⟩) (upto es 0).length 1) (upto es 0).length ((upto es 0).flatMap Sta.cells)) := Lib.hid (View.of_blk hs1 (Nat.le_refl _) rfl (show 1 ≤ maxLen by decide))
  have HST : Hid (Blk wd (wc.heap.size + 1) [.slice a' es'.length c', .int .i64 win, .int .i64 cap, .slice (some ⟨wc.heap.size, 0, none⟩) (upto es 0).length 1] 132) := Lib.hid hs2
  have HSF := Lib.hid hs3
  have HQD := Lib.hid (HQ.out.fr hs3 (by simp))
  have q0 := HQD.out.cell_at (o := 0) rfl
  have q1 := HQD.out.cell_at (o := 1) rfl
  have q2 := HQD.out.cell_at (o := 2) rfl
  clear hs1 hs2 hs3
  go_wp2_with fail
  refine (next_any a c _ _ es (-1) (by omega) wd (HR.out.fr0 (HFC.out.trans0 HSF.out)) (by omega)).mono ?_
  rintro _ we ⟨rfl, hf⟩
  rw [show ((-1 : Int) + 1).toNat = 0 from rfl]
  have VS : Hid (View we wc.heap.size 100 2 (.slice (some ⟨wc.heap.size, 0, none⟩) (upto es 0).length 1) (upto es 0).length ((upto es 0).flatMap Sta.cells)) := Lib.hid (HSV.out.fr0 hf)
  have BS := Lib.hid (HST.out.fr hf (by simp))
  have FS := Lib.hid (HSF.out.trans0 hf)
  clear hf HSV HST HSF HQD q0 q1 q2
  go_wp2_with fail
  go_loopw [4, 5] (fun v4 v5 wr => ∃ (s : Nat) (al : Option Addr) (cl : Nat), v4 = .int .i64 (nextOf es s) ∧ s ≤ es.length ∧ View wr wc.heap.size 100 2 (.slice al (upto es s).length cl) (upto es s).length ((upto es s).flatMap Sta.cells) ∧
    (∀ g, (Value.slice al (upto es s).length cl).ownBlock = some g → g ≠ wc.heap.size + 1) ∧ Blk wr (wc.heap.size + 1) [.slice a' es'.length c', .int .i64 win, .int .i64 cap, .slice al (upto es s).length cl] 132 ∧ Fr [] wc wr) (fun v4 _ _ => nm es.length v4)
  case atStart => exact ⟨0, some ⟨wc.heap.size, 0, none⟩, 1, rfl, Nat.zero_le _, VS.out, (by intro g hg; have h : wc.heap.size = g := Option.some.inj hg; omega), BS.out, FS.out⟩
  case round =>
    obtain ⟨s, al, cl, rfl, hs, hV, hown, hB, hF⟩ := hrel
    have HV := Lib.hid hV
    have HOWN := Lib.hid hown
    have HB := Lib.hid hB
    have HF := Lib.hid hF
    clear hV hown hB hF VS BS FS
    rcases upto_next es _ s rfl hs with ⟨hnx, hup⟩ | ⟨r, e, hnx, hsr, her, hen, hup⟩
    · rw [hnx]
      have HUP := Lib.hid hup
      clear hup hnx
      go_wp2_with fail
      go_ret
      refine ⟨wc.heap.size + 1, es', a', c', al, cl, rfl, HLK.out, ?_, HFC.out.trans0 HF.out⟩
      rw [← HUP.out]
      exact ⟨HB.out, HVE.out.fr0 HF.out, HV.out.reads⟩
    · rw [hnx]
      have HNX := Lib.hid hnx
      have HER := Lib.hid her
      have HEN := Lib.hid hen
      have HUP := Lib.hid hup
      have hrl : r < es.length := (List.getElem?_eq_some_iff.1 her).1
      have hmx := HFE.out e (List.mem_of_getElem? her)
      have hmany : imin e.mx 4 = (many e : Int) := by unfold many; rw [imin_eq]; omega
      have hm4 := many_le e
      have hlen := upto_len es s
      clear hnx her hen hup
      obtain ⟨wo, rfl⟩ : ∃ W, W = wr := ⟨_, rfl⟩
      go_wp2_with fail
      go_loopw [5] (fun v5 wr => ∃ (j : Nat) (al : Option Addr) (cl : Nat), v5 = .int .i64 ((j : Int) + 1) ∧ j ≤ many e ∧ View wr wc.heap.size 100 2 (.slice al ((upto es s).length + j) cl) ((upto es s).length + j) ((upto es s ++ col r j).flatMap Sta.cells) ∧
        (∀ g, (Value.slice al ((upto es s).length + j) cl).ownBlock = some g → g ≠ wc.heap.size + 1) ∧ Blk wr (wc.heap.size + 1) [.slice a' es'.length c', .int .i64 win, .int .i64 cap, .slice al ((upto es s).length + j) cl] 132 ∧ Fr [] wc wr) (fun v5 _ => many e + 1 - (intOf v5).toNat)
      case atStart => exact ⟨0, al, cl, rfl, Nat.zero_le _, by simpa [col] using HV.out, HOWN.out, HB.out, HF.out⟩
      case round =>
        obtain ⟨j, al, cl, rfl, hj, hV, hown, hB, hF⟩ := hrel
        have HV1 := Lib.hid hV
        have HOWN1 := Lib.hid hown
        have HB1 := Lib.hid hB
        have HF1 := Lib.hid hF
        clear hV hown hB hF HV HOWN HB HF
        have HQW := Lib.hid (HQ.out.fr HF1.out (by simp))
        have q0 := HQW.out.cell_at (o := 0) rfl
        obtain ⟨b, o, rfl⟩ := HR.out.rec_addr El.len (by omega) HER.out
        have hc : wr.cell? ⟨b, o + r * 6 + 4, none⟩ = some (.int .i64 e.mx) := (HR.out.fr0 (HFC.out.trans0 HF1.out)).rec El.len HER.out rfl
        have hrI : (r : Int) < (es.length : Int) := by omega
        by_cases hjm : j < many e
        · have hle : (j : Int) + 1 ≤ (many e : Int) := by omega
          have hle' : decide ((j : Int) + 1 ≤ (many e : Int)) = true := decide_eq_true hle
          have n3 := HB1.out.cell_at (o := 3) rfl
          go_wp2_with (first | (at_builtin; refine wpList_append_view _ rfl _ _ 103 rfl wc.heap.size 100 i0 (.agg #[.int .i64 0, .int .i64 0]) 2 16 Try.underlying103 hi0 hz0 hz1 hz2 rfl _ _ ((upto es s).length + j) _ rfl (HV1.out.fr0 ((Fr.refl _ _).alloc _)) _ 1 [.int .i64 (r : Int), .int .i64 ((j : Int) + 1)] rfl (reads_two _ _ _ _) (by simp [Value.oneCell']) (by unfold maxLen; omega) (by omega) (by have := HF1.out.size; simp; omega) ?_; intro a'' c'' w' hv' hg' hat'; have HV' := Lib.hid hv'; have HG' := Lib.hid hg'; have HAT' := Lib.hid hat'; have HB' : Hid (Blk w' (wc.heap.size + 1) [.slice a' es'.length c', .int .i64 win, .int .i64 cap, .slice al ((upto es s).length + j) cl] 132) := Lib.hid ((HB1.out.alloc _).fr (Fr.of_grown hg') (fun hm => HOWN1.out _ (Option.mem_toList.1 hm) rfl)); clear hv' hg' hat' n3; have n3' := HB'.out.cell_at (o := 3) rfl; have hfz := HB'.out.thawed))
          go_roundw
          case rel =>
            have hF' : Fr [] wc w' := (HF1.out.alloc _).grown HG'.out (fun g hg => .inr (HV1.out.lt hg).1)
            have hset : Fr [wc.heap.size + 1] w' (w'.setCell ⟨wc.heap.size + 1, 3, none⟩ (.slice a'' ((upto es s).length + j + 1) c'')) := (Fr.refl _ _).set (.inl (by simp)) _
            have hown' : ∀ g, (Value.slice a'' ((upto es s).length + j + 1) c'').ownBlock = some g → g ≠ wc.heap.size + 1 := fun g hg => by
              rcases HAT'.out with h | h
              · exact HOWN1.out g (h ▸ hg)
              · rw [h] at hg
                have h1 := Option.some.inj hg
                have h2 := HB1.out.lt
                simp at h1
                omega
            refine ⟨j + 1, a'', c'', by go_num, by omega, ?_, hown', HB'.out.set 3 _, hF'.trans hset (fun x hx => .inr (by simp at hx; omega))⟩
            have hv := HV'.out.fr hset (fun g hg => by simpa using hown' g hg)
            rw [col_succ, ← List.append_assoc, List.flatMap_append]
            exact hv
          case measure => simp [intOf]; omega
        · have hjme : j = many e := by omega
          have HJ := Lib.hid hjme
          have hle : ¬ ((j : Int) + 1 ≤ (many e : Int)) := by omega
          have hle' : decide ((j : Int) + 1 ≤ (many e : Int)) = false := decide_eq_false hle
          have q1 := HQW.out.cell_at (o := 1) rfl
          have q2 := HQW.out.cell_at (o := 2) rfl
          clear hjme
          go_wp2_with fail
          refine (next_any _ c _ _ es (r : Int) (by omega) wr (HR.out.fr0 (HFC.out.trans0 HF1.out)) (by omega)).mono ?_
          rintro _ wx ⟨rfl, hf⟩
          rw [show ((r : Int) + 1).toNat = r + 1 by omega]
          have HFX := Lib.hid hf
          clear hf q0 q1 q2 hc
          go_wp2_with fail
          go_roundw
          case rel =>
            have hu : upto es (r + 1) = upto es s ++ col r (many e) := by rw [upto_pos HER.out HEN.out, HUP.out]
            have hl2 : (upto es (r + 1)).length = (upto es s).length + j := by rw [hu, List.length_append, col_len, HJ.out]
            refine ⟨r + 1, al, cl, rfl, by omega, ?_, ?_, ?_, HF1.out.trans0 HFX.out⟩
            · rw [hl2, hu, ← HJ.out]; exact HV1.out.fr0 HFX.out
            · rw [hl2]; exact HOWN1.out
            · rw [hl2]; exact HB1.out.fr HFX.out (by simp)
          case measure => exact nm_lt hrl
end Go.Proofs.Ytcnoaflojojfkab.Nfa
