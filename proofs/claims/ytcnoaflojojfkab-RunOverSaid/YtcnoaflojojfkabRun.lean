/- run.Run in memory: Len, Elem, Over, Dead, Block; event.Copy, event.Stamp. No condition. -/
import Derived.Test.YtcnoaflojojfkabRunPers
namespace Go.Proofs.Ytcnoaflojojfkab.Rn
open Go.RowKit Go.Proofs.Ytcnoaflojojfkab.Pat Go.Proofs.Ytcnoaflojojfkab.Qry Go.Proofs.Ytcnoaflojojfkab.Evt
set_option linter.unusedVariables false
set_option linter.unusedSimpArgs false
set_option maxRecDepth 100000
theorem reads_none4 {w : World} {size n c : Nat} {xs : List Value} (hs : 0 < size) (h : Reads w size (.slice none n c) n xs) : n = 0 ∧ xs = [] := by
  obtain ⟨hl, a', c', hv, _, h | ⟨b, o, h2, _⟩⟩ := h
  · subst h
    have h0 : n * size = 0 := by simpa using hl.symm
    rcases Nat.mul_eq_zero.1 h0 with h | h
    · exact ⟨h, rfl⟩
    · omega
  · simp only [Value.slice.injEq, true_and] at hv
    rw [← hv.1] at h2; cases h2
theorem info_value : (Try.prog.info? 137).map (fun i => (i.zero, i.size, i.bytes)) = some (some (.agg #[.int .i64 0, .int .i64 0, .string ⟨#[]⟩, .bool false]), 4, 40) := by kernel_rfl
theorem eqn_vals (n c : Nat) (w : World) : (binOp BinOp.eql 77 (.slice none n c) (.slice none 0 0)).run Try.prog w = .ok (.bool true) w := by kernel_rfl
theorem eqs_vals (ad : Addr) (n c : Nat) (w : World) : (binOp BinOp.eql 77 (.slice (some ad) n c) (.slice none 0 0)).run Try.prog w = .ok (.bool false) w := by kernel_rfl
attribute [local go_sem] eqn_vals eqs_vals
theorem clone_vals (a : Option Addr) (n c : Nat) (xs : List Value) (w : World) (h : Reads w 4 (.slice a n c) n xs) (h1 : ∀ u ∈ xs, u.oneCell' = true) (hn : n ≤ 1000) :
    Calls Try.prog 98 #[.slice a n c] w fun e w' => ∃ (a' : Option Addr) (c' : Nat), e = .returned (.slice a' n c') ∧ View w' w.heap.size 137 4 (.slice a' n c') n xs ∧ Fr [] w w' := by
  obtain ⟨i0, hi0, hz0, hz1, hz2⟩ := info_parts info_value
  cases a with
  | none =>
    obtain ⟨rfl, rfl⟩ := reads_none4 (by omega) h
    clear h h1
    go_enter Try.func98, Try.ntmps98
    go_wp2_with fail
    go_ret
    exact ⟨none, 0, rfl, View.nil _ _ _ _, Fr.refl _ _⟩
  | some ad =>
    have H := Lib.hid h
    have H1 := Lib.hid h1
    clear h h1
    have VN : Hid (View (w.alloc (.cells #[] 137)) w.heap.size 137 4 (.slice (some ⟨w.heap.size, 0, none⟩) 0 0) 0 []) := Lib.hid (View.of_blk (Blk.new w [] _) (Nat.le_refl _) rfl (by decide))
    go_enter Try.func98, Try.ntmps98
    go_wp2_with (first | (at_builtin; refine wpList_append_view _ rfl _ _ 77 rfl w.heap.size 137 i0 (.agg #[.int .i64 0, .int .i64 0, .string ⟨#[]⟩, .bool false]) 4 40 Try.underlying77 hi0 hz0 hz1 hz2 rfl _ _ 0 _ rfl VN.out _ n xs rfl (H.out.alloc _) H1.out (by unfold maxLen; omega) (by omega) (by simp) ?_; intro a' c' w' hv' hg' hat'; rw [Nat.zero_add, List.nil_append] at hv'; rw [Nat.zero_add]; have HV' := Lib.hid hv'; have HG' := Lib.hid hg'; clear hv' hg' hat'))
    go_ret
    exact ⟨a', c', rfl, HV'.out, ((Fr.refl _ _).alloc _).grown HG'.out (fun j hj => .inr (VN.out.lt hj).1)⟩
theorem vals_one (vs : List Vl) : ∀ u ∈ vs.flatMap Vl.cells, u.oneCell' = true := by
  intro u hu
  obtain ⟨x, _, h⟩ := List.mem_flatMap.1 hu
  simp only [Vl.cells, List.mem_cons, List.not_mem_nil, or_false] at h
  rcases h with rfl | rfl | rfl | rfl <;> rfl
theorem stamp_any (e : Ev) (k : Int) (w : World) : Calls Try.prog 83 #[.agg #[.string e.typ, .string e.key, .int .i64 e.time, .int .i64 e.seq, .slice e.va e.vn e.vc], .int .i64 k] w fun r w' =>
    r = .returned (.agg #[.int .i64 e.time, .int .i64 e.seq, .int .i64 k]) ∧ Fr [] w w' := by
  have hn2 := new2 w [.string e.typ, .string e.key, .int .i64 e.time, .int .i64 e.seq, .slice e.va e.vn e.vc] 79 [.int .i64 e.time, .int .i64 e.seq, .int .i64 k] 49
  have HN := Lib.hid hn2
  clear hn2
  go_enter Try.func83, Try.ntmps83
  go_wp2_with fail
  try simp only [Exit.inBlock, Exit.then]
  refine ret_cell (g := w.heap.size + 1) (cs := [.int .i64 e.time, .int .i64 e.seq, .int .i64 k]) (t := 49) ?_ rfl rfl Try.underlying49 rfl (by kernel_rfl) rfl ?_
  · exact HN.out.2.1
  · exact ⟨rfl, HN.out.2.2⟩
set_option maxHeartbeats 1000000 in
theorem evcopy_any (e : Ev) (w : World) (h : Sees4 w e) : Calls Try.prog 85 #[.agg #[.string e.typ, .string e.key, .int .i64 e.time, .int .i64 e.seq, .slice e.va e.vn e.vc]] w fun r w' =>
    ∃ (a' : Option Addr) (c' : Nat), r = .returned (.agg #[.string e.typ, .string e.key, .int .i64 e.time, .int .i64 e.seq, .slice a' e.vn c']) ∧ Fr [] w w' := by
  obtain ⟨hn3, vs, hvl, hvr⟩ := h
  have HV := Lib.hid hvr
  have hn2 := new2 w [.string e.typ, .string e.key, .int .i64 e.time, .int .i64 e.seq, .slice e.va e.vn e.vc] 79 [.string ⟨#[]⟩, .string ⟨#[]⟩, .int .i64 0, .int .i64 0, .slice none 0 0] 79
  obtain ⟨w1, hw1⟩ : ∃ W, W = (w.alloc (.cells [.string e.typ, .string e.key, .int .i64 e.time, .int .i64 e.seq, .slice e.va e.vn e.vc].toArray 79)).alloc (.cells [.string ⟨#[]⟩, .string ⟨#[]⟩, .int .i64 0, .int .i64 0, .slice none 0 0].toArray 79) := ⟨_, rfl⟩
  rw [← hw1] at hn2
  have HN := Lib.hid hn2
  clear hvl hvr hn2
  go_enter Try.func85, Try.ntmps85
  go_upto_region 1 with (fail)
  rw [show (w.alloc (.cells #[.string e.typ, .string e.key, .int .i64 e.time, .int .i64 e.seq, .slice e.va e.vn e.vc] 79)).alloc (.cells #[.string ⟨#[]⟩, .string ⟨#[]⟩, .int .i64 0, .int .i64 0, .slice none 0 0] 79) = w1 from hw1.symm]
  clear hw1
  have b4 := HN.out.1.cell_at (o := 4) rfl
  go_wp2_with fail
  refine (clone_vals e.va e.vn e.vc _ w1 (HV.out.fr0 HN.out.2.2) (vals_one vs) (by omega)).mono ?_
  rintro _ w2 ⟨a', c', rfl, hv, hf⟩
  have BX := Lib.hid (HN.out.1.fr hf (by simp))
  have BR := Lib.hid (HN.out.2.1.fr hf (by simp))
  have F2 := Lib.hid (HN.out.2.2.trans0 hf)
  clear hv hf b4 HN
  have b4 := BX.out.cell_at (o := 4) rfl
  have hfz := BX.out.thawed
  go_upto_region 2 with (fail)
  have BX3 := Lib.hid (BX.out.set 4 (.slice a' e.vn c'))
  have hf3 : Fr [w.heap.size] w2 (w2.setCell ⟨w.heap.size, 4, none⟩ (.slice a' e.vn c')) := (Fr.refl _ _).set (.inl (by simp)) _
  have BR3 := Lib.hid (BR.out.fr hf3 (by simp))
  have F3 := Lib.hid (F2.out.trans hf3 (fun b hb => .inr (by simp at hb; omega)))
  obtain ⟨w3, hw3⟩ : ∃ W, W = w2.setCell ⟨w.heap.size, 4, none⟩ (.slice a' e.vn c') := ⟨_, rfl⟩
  rw [← hw3] at BX3 BR3 F3 ⊢
  clear hw3 hf3 b4 hfz BX BR F2
  have b0 := BX3.out.cell_at (o := 0) rfl
  have b1 := BX3.out.cell_at (o := 1) rfl
  have b2 := BX3.out.cell_at (o := 2) rfl
  have b3 := BX3.out.cell_at (o := 3) rfl
  have b4 := BX3.out.cell_at (o := 4) rfl
  have c0 := BR3.out.cell_at (o := 0) rfl
  have c1 := BR3.out.cell_at (o := 1) rfl
  have c2 := BR3.out.cell_at (o := 2) rfl
  have c3 := BR3.out.cell_at (o := 3) rfl
  have c4 := BR3.out.cell_at (o := 4) rfl
  have hfz := BR3.out.thawed
  go_wp2_with fail
  try simp only [Exit.inBlock, Exit.then]
  have hs := five_sets BR3.out (.string e.typ) (.string e.key) (.int .i64 e.time) (.int .i64 e.seq) (.slice a' e.vn c')
  refine ret_cell hs.1 rfl rfl Try.underlying79 rfl (by kernel_rfl) rfl ?_
  exact ⟨a', c', rfl, F3.out.trans hs.2 (fun b hb => .inr (by simp at hb; omega))⟩
end Go.Proofs.Ytcnoaflojojfkab.Rn
