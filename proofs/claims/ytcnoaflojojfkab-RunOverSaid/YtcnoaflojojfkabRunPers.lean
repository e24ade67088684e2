/- pers.Chain at pairs, and at bound variables: Len, With, Newest. No condition. -/
import Derived.Test.YtcnoaflojojfkabEventsAll
import Derived.Laws.ResultCell
namespace Go.Proofs.Ytcnoaflojojfkab.Rn
open Go.RowKit Go.Proofs.Ytcnoaflojojfkab.Pat Go.Proofs.Ytcnoaflojojfkab.Qry Go.Proofs.Ytcnoaflojojfkab.Evt
set_option linter.unusedVariables false
set_option linter.unusedSimpArgs false
set_option maxRecDepth 100000
theorem ret_cell_tmp {P : Program} {fn : Func} {R : Ending → World → Prop} {A : Act} {w : World} {p u : Tmp} {ty t : TypeId} {g : Nat} {cs : List Value} {d : TypeDesc} (hb : Blk w g cs t) (h : fn.results = #[.cell p ty, .tmp u])
    (hp : A.tmps.getD p undef = .pointer (some ⟨g, 0, none⟩)) (hu : P.underlying ty = some d) (hd : (match d with | .struct _ | .array _ _ => true | _ => false) = true) (hi : (P.info? ty).map (·.size) = some cs.length)
    (hdf : A.defers = []) (hR : R (.returned (.tuple #[.agg cs.toArray, A.tmps.getD u undef])) w) : bodyPost P fn R .ret A w :=
  bodyPost_ret (v := .tuple #[.agg cs.toArray, A.tmps.getD u undef]) (by
    rw [results_cell_tmp h, hp]
    simp [asAddr, run_loadVar_row w g t ty cs.toArray (0, 0) d hb hu hd (by simpa using hi)]) hdf hR

theorem len_pair_nil (w : World) : Calls Try.prog 94 #[.pointer none] w fun e w' => e = .returned (.int .i64 0) ∧ w = w' := by
  go_enter Try.func94, Try.ntmps94
  go_wp2
  go_ret
  exact ⟨rfl, rfl⟩
theorem len_pair_any (b : Nat) (n : Int) (w : World) (h : w.cell? ⟨b, 3, none⟩ = some (.int .i64 n)) : Calls Try.prog 94 #[.pointer (some ⟨b, 0, none⟩)] w fun e w' => e = .returned (.int .i64 n) ∧ w = w' := by
  go_enter Try.func94, Try.ntmps94
  go_wp2
  go_ret
  exact ⟨rfl, rfl⟩
/-- a chain of so many things, or none -/
def Ch_pair (w : World) (m : Value) (n : Nat) : Prop := (m = .pointer none ∧ n = 0) ∨ ∃ mb, m = .pointer (some ⟨mb, 0, none⟩) ∧ 1 ≤ n ∧ w.cell? ⟨mb, 3, none⟩ = some (.int .i64 (n : Int))
theorem Ch_pair.fr0 {w w' : World} {m : Value} {n : Nat} (h : Ch_pair w m n) (hf : Fr [] w w') : Ch_pair w' m n := by
  rcases h with h | ⟨mb, h1, h2, h3⟩
  · exact .inl h
  · exact .inr ⟨mb, h1, h2, hf.cell h3 (by simp)⟩
theorem len_pair (m : Value) (n : Nat) (w : World) (h : Ch_pair w m n) : Calls Try.prog 94 #[m] w fun e w' => e = .returned (.int .i64 (n : Int)) ∧ w = w' := by
  rcases h with ⟨rfl, rfl⟩ | ⟨mb, rfl, _, h⟩
  · exact len_pair_nil w
  · exact len_pair_any mb n w h
set_option maxHeartbeats 2000000 in
theorem with_pair (m : Value) (n : Nat) (xe xs : Int) (w : World) (hm : Ch_pair w m n) (hn : n ≤ 100000) : Calls Try.prog 82 #[m, .agg #[.int .i64 xe, .int .i64 xs]] w fun e w' =>
    ∃ nb, e = .returned (.pointer (some ⟨nb, 0, none⟩)) ∧ Blk w' nb [.int .i64 xe, .int .i64 xs, m, .int .i64 ((n + 1 : Nat) : Int)] 145 ∧ Fr [] w w' := by
  have hb := Blk.new w [.int .i64 xe, .int .i64 xs] 89
  have hfa : Fr [] w (w.alloc (.cells [.int .i64 xe, .int .i64 xs].toArray 89)) := (Fr.refl _ _).alloc _
  have b0 := hb.cell_at (o := 0) rfl
  have b1 := hb.cell_at (o := 1) rfl
  have hone : m.oneCell' = true := by rcases hm with ⟨rfl, _⟩ | ⟨mb, rfl, _⟩ <;> rfl
  obtain ⟨p, hp⟩ : ∃ p, m = .pointer p := by rcases hm with ⟨rfl, _⟩ | ⟨mb, rfl, _⟩ <;> exact ⟨_, rfl⟩
  subst hp
  have hwr : IntKind.i64.wrap ((n : Int) + 1) = (n : Int) + 1 := by rw [IntKind.wrap_i64]; omega
  clear hb hone
  go_enter Try.func82, Try.ntmps82
  go_upto_region 1 with (fail)
  refine wp_region_tree_np (fun W => W.cell? ⟨w.heap.size, 0, none⟩ = some (.int .i64 xe) ∧ W.cell? ⟨w.heap.size, 1, none⟩ = some (.int .i64 xs)) (.on 0 (.on 1 (.on 2 (.one 3 (.on 4 (.on 5 (.one 6 (.on 7 .nil)))))))) (by kernel_rfl) (by kernel_rfl) ⟨b0, b1⟩ ?_
  iterate 3 (first | (refine ht_on (o := ?_) (v := ?_) ?_ ?_ (fun w hSw => ?_) ?_; rotate_left 2; (focus ((simp only [List.getElem?_toArray, List.getElem?_cons_succ, List.getElem?_cons_zero]); (try rfl); done)); (focus (rfl)); (focus (((try obtain ⟨s0, s1⟩ := hSw); (try dsimp only at hSw); go_simp; (try with_reducible rfl)); done)); simp only [Act.put, List.setIfInBounds_toArray, List.set_cons_zero, List.set_cons_succ]) | (refine ht_off_light (o := ?_) ?_ ?_ ?_; rotate_left 1; (focus ((simp only [List.getElem?_toArray, List.getElem?_cons_succ, List.getElem?_cons_zero]); (try rfl); done)); (focus (rfl)); simp only [Act.put, List.setIfInBounds_toArray, List.set_cons_zero, List.set_cons_succ]))
  refine ht_one (o := ?_) ?_ ?_ (fun K hK => ?_)
  rotate_left 1
  (focus ((simp only [List.getElem?_toArray, List.getElem?_cons_succ, List.getElem?_cons_zero]); (try rfl); done))
  focus (rfl)
  go_simp
  refine (len_pair (.pointer p) n _ ((hm.fr0 hfa).fr0 (Fr.refl _ _).drew)).mono ?_
  rintro _ w2 ⟨rfl, rfl⟩
  refine hK.out _ _ ⟨b0, b1⟩ (fun _ => ?_)
  try simp only [Act.put, List.setIfInBounds_toArray, List.set_cons_zero, List.set_cons_succ]
  iterate 2 (first | (refine ht_on (o := ?_) (v := ?_) ?_ ?_ (fun w hSw => ?_) ?_; rotate_left 2; (focus ((simp only [List.getElem?_toArray, List.getElem?_cons_succ, List.getElem?_cons_zero]); (try rfl); done)); (focus (rfl)); (focus (((try obtain ⟨s0, s1⟩ := hSw); (try dsimp only at hSw); go_simp; (try with_reducible rfl)); done)); simp only [Act.put, List.setIfInBounds_toArray, List.set_cons_zero, List.set_cons_succ]) | (refine ht_off_light (o := ?_) ?_ ?_ ?_; rotate_left 1; (focus ((simp only [List.getElem?_toArray, List.getElem?_cons_succ, List.getElem?_cons_zero]); (try rfl); done)); (focus (rfl)); simp only [Act.put, List.setIfInBounds_toArray, List.set_cons_zero, List.set_cons_succ]))
  refine ht_one (o := ?_) ?_ ?_ (fun K hK => ?_)
  rotate_left 1
  (focus ((simp only [List.getElem?_toArray, List.getElem?_cons_succ, List.getElem?_cons_zero]); (try rfl); done))
  focus (rfl)
  go_simp
  refine hK.out _ _ ⟨((Fr.refl [] _).alloc _).cell b0 (by simp), ((Fr.refl [] _).alloc _).cell b1 (by simp)⟩ (fun _ => ?_)
  try simp only [Act.put, List.setIfInBounds_toArray, List.set_cons_zero, List.set_cons_succ]
  iterate 1 (first | (refine ht_on (o := ?_) (v := ?_) ?_ ?_ (fun w hSw => ?_) ?_; rotate_left 2; (focus ((simp only [List.getElem?_toArray, List.getElem?_cons_succ, List.getElem?_cons_zero]); (try rfl); done)); (focus (rfl)); (focus (((try obtain ⟨s0, s1⟩ := hSw); (try dsimp only at hSw); go_simp; (try with_reducible rfl)); done)); simp only [Act.put, List.setIfInBounds_toArray, List.set_cons_zero, List.set_cons_succ]) | (refine ht_off_light (o := ?_) ?_ ?_ ?_; rotate_left 1; (focus ((simp only [List.getElem?_toArray, List.getElem?_cons_succ, List.getElem?_cons_zero]); (try rfl); done)); (focus (rfl)); simp only [Act.put, List.setIfInBounds_toArray, List.set_cons_zero, List.set_cons_succ]))
  refine ht_done_np ?_
  go_wp2_with fail
  go_ret
  exact ⟨_, rfl, (new2 w [.int .i64 xe, .int .i64 xs] 89 [.int .i64 xe, .int .i64 xs, .pointer p, .int .i64 ((n : Int) + 1)] 145).2.1.drew, (hfa.alloc _).drew⟩
theorem newest_nil (w : World) : Calls Try.prog 95 #[.pointer none] w fun e w' => e = .returned (.tuple #[.agg #[.int .i64 0, .int .i64 0], .bool false]) ∧ Fr [] w w' := by
  go_enter Try.func95, Try.ntmps95
  go_wp2_with (first | (go_at_call 94; refine (len_pair_nil _).mono ?_; rintro e w' ⟨rfl, rfl⟩))
  try simp only [Exit.inBlock, Exit.then]
  refine ret_cell_tmp (Blk.fr (Blk.new w [.int .i64 0, .int .i64 0] _) ((Fr.refl [] _).alloc _) (by simp)) rfl rfl Try.underlying89 rfl (by kernel_rfl) rfl ?_
  exact ⟨rfl, ((Fr.refl _ _).alloc _).alloc _⟩
theorem newest_any (mb : Nat) (xe xs n : Int) (w : World) (h0 : w.cell? ⟨mb, 0, none⟩ = some (.int .i64 xe)) (h1 : w.cell? ⟨mb, 1, none⟩ = some (.int .i64 xs)) (h3 : w.cell? ⟨mb, 3, none⟩ = some (.int .i64 n)) (hn : 1 ≤ n) :
    Calls Try.prog 95 #[.pointer (some ⟨mb, 0, none⟩)] w fun e w' => e = .returned (.tuple #[.agg #[.int .i64 xe, .int .i64 xs], .bool true]) ∧ Fr [] w w' := by
  have k0 := fun ob => (World.cell?_alloc_lt w ob _ (World.block_lt_of_cell? w _ h0)).trans h0
  have k1 := fun ob => (World.cell?_alloc_lt w ob _ (World.block_lt_of_cell? w _ h1)).trans h1
  have k3 := fun ob => (World.cell?_alloc_lt w ob _ (World.block_lt_of_cell? w _ h3)).trans h3
  have hz : (n == 0) = false := by rw [beq_eq_false_iff_ne]; omega
  go_enter Try.func95, Try.ntmps95
  go_wp2_with (first | (go_at_call 94; refine (len_pair_any mb n _ (k3 _)).mono ?_; rintro e w' ⟨rfl, rfl⟩))
  try simp only [Exit.inBlock, Exit.then]
  refine ret_cell_tmp (Blk.new w [.int .i64 xe, .int .i64 xs] _) rfl rfl Try.underlying89 rfl (by kernel_rfl) rfl ?_
  exact ⟨rfl, (Fr.refl _ _).alloc _⟩

theorem len_bound_nil (w : World) : Calls Try.prog 97 #[.pointer none] w fun e w' => e = .returned (.int .i64 0) ∧ w = w' := by
  go_enter Try.func97, Try.ntmps97
  go_wp2
  go_ret
  exact ⟨rfl, rfl⟩
theorem len_bound_any (b : Nat) (n : Int) (w : World) (h : w.cell? ⟨b, 7, none⟩ = some (.int .i64 n)) : Calls Try.prog 97 #[.pointer (some ⟨b, 0, none⟩)] w fun e w' => e = .returned (.int .i64 n) ∧ w = w' := by
  go_enter Try.func97, Try.ntmps97
  go_wp2
  go_ret
  exact ⟨rfl, rfl⟩
/-- a chain of so many things, or none -/
def Ch_bound (w : World) (m : Value) (n : Nat) : Prop := (m = .pointer none ∧ n = 0) ∨ ∃ mb, m = .pointer (some ⟨mb, 0, none⟩) ∧ 1 ≤ n ∧ w.cell? ⟨mb, 7, none⟩ = some (.int .i64 (n : Int))
theorem Ch_bound.fr0 {w w' : World} {m : Value} {n : Nat} (h : Ch_bound w m n) (hf : Fr [] w w') : Ch_bound w' m n := by
  rcases h with h | ⟨mb, h1, h2, h3⟩
  · exact .inl h
  · exact .inr ⟨mb, h1, h2, hf.cell h3 (by simp)⟩
theorem len_bound (m : Value) (n : Nat) (w : World) (h : Ch_bound w m n) : Calls Try.prog 97 #[m] w fun e w' => e = .returned (.int .i64 (n : Int)) ∧ w = w' := by
  rcases h with ⟨rfl, rfl⟩ | ⟨mb, rfl, _, h⟩
  · exact len_bound_nil w
  · exact len_bound_any mb n w h
set_option maxHeartbeats 2000000 in
theorem with_bound (m : Value) (n : Nat) (xv xt xk : ByteArray) (xi xs : Int) (xa : Option Addr) (xn xc : Nat) (w : World) (hm : Ch_bound w m n) (hn : n ≤ 100000) : Calls Try.prog 84 #[m, .agg #[.string xv, .string xt, .string xk, .int .i64 xi, .int .i64 xs, .slice xa xn xc]] w fun e w' =>
    ∃ nb, e = .returned (.pointer (some ⟨nb, 0, none⟩)) ∧ Blk w' nb [.string xv, .string xt, .string xk, .int .i64 xi, .int .i64 xs, .slice xa xn xc, m, .int .i64 ((n + 1 : Nat) : Int)] 147 ∧ Fr [] w w' := by
  have hb := Blk.new w [.string xv, .string xt, .string xk, .int .i64 xi, .int .i64 xs, .slice xa xn xc] 127
  have hfa : Fr [] w (w.alloc (.cells [.string xv, .string xt, .string xk, .int .i64 xi, .int .i64 xs, .slice xa xn xc].toArray 127)) := (Fr.refl _ _).alloc _
  have b0 := hb.cell_at (o := 0) rfl
  have b1 := hb.cell_at (o := 1) rfl
  have b2 := hb.cell_at (o := 2) rfl
  have b3 := hb.cell_at (o := 3) rfl
  have b4 := hb.cell_at (o := 4) rfl
  have b5 := hb.cell_at (o := 5) rfl
  have hone : m.oneCell' = true := by rcases hm with ⟨rfl, _⟩ | ⟨mb, rfl, _⟩ <;> rfl
  obtain ⟨p, hp⟩ : ∃ p, m = .pointer p := by rcases hm with ⟨rfl, _⟩ | ⟨mb, rfl, _⟩ <;> exact ⟨_, rfl⟩
  subst hp
  have hwr : IntKind.i64.wrap ((n : Int) + 1) = (n : Int) + 1 := by rw [IntKind.wrap_i64]; omega
  clear hb hone
  go_enter Try.func84, Try.ntmps84
  go_upto_region 1 with (fail)
  refine wp_region_tree_np (fun W => W.cell? ⟨w.heap.size, 0, none⟩ = some (.string xv) ∧ W.cell? ⟨w.heap.size, 1, none⟩ = some (.string xt) ∧ W.cell? ⟨w.heap.size, 2, none⟩ = some (.string xk) ∧ W.cell? ⟨w.heap.size, 3, none⟩ = some (.int .i64 xi) ∧ W.cell? ⟨w.heap.size, 4, none⟩ = some (.int .i64 xs) ∧ W.cell? ⟨w.heap.size, 5, none⟩ = some (.slice xa xn xc)) (.on 0 (.on 1 (.on 2 (.one 3 (.on 4 (.on 5 (.one 6 (.on 7 .nil)))))))) (by kernel_rfl) (by kernel_rfl) ⟨b0, b1, b2, b3, b4, b5⟩ ?_
  iterate 3 (first | (refine ht_on (o := ?_) (v := ?_) ?_ ?_ (fun w hSw => ?_) ?_; rotate_left 2; (focus ((simp only [List.getElem?_toArray, List.getElem?_cons_succ, List.getElem?_cons_zero]); (try rfl); done)); (focus (rfl)); (focus (((try obtain ⟨s0, s1, s2, s3, s4, s5⟩ := hSw); (try dsimp only at hSw); go_simp; (try with_reducible rfl)); done)); simp only [Act.put, List.setIfInBounds_toArray, List.set_cons_zero, List.set_cons_succ]) | (refine ht_off_light (o := ?_) ?_ ?_ ?_; rotate_left 1; (focus ((simp only [List.getElem?_toArray, List.getElem?_cons_succ, List.getElem?_cons_zero]); (try rfl); done)); (focus (rfl)); simp only [Act.put, List.setIfInBounds_toArray, List.set_cons_zero, List.set_cons_succ]))
  refine ht_one (o := ?_) ?_ ?_ (fun K hK => ?_)
  rotate_left 1
  (focus ((simp only [List.getElem?_toArray, List.getElem?_cons_succ, List.getElem?_cons_zero]); (try rfl); done))
  focus (rfl)
  go_simp
  refine (len_bound (.pointer p) n _ ((hm.fr0 hfa).fr0 (Fr.refl _ _).drew)).mono ?_
  rintro _ w2 ⟨rfl, rfl⟩
  refine hK.out _ _ ⟨b0, b1, b2, b3, b4, b5⟩ (fun _ => ?_)
  try simp only [Act.put, List.setIfInBounds_toArray, List.set_cons_zero, List.set_cons_succ]
  iterate 2 (first | (refine ht_on (o := ?_) (v := ?_) ?_ ?_ (fun w hSw => ?_) ?_; rotate_left 2; (focus ((simp only [List.getElem?_toArray, List.getElem?_cons_succ, List.getElem?_cons_zero]); (try rfl); done)); (focus (rfl)); (focus (((try obtain ⟨s0, s1, s2, s3, s4, s5⟩ := hSw); (try dsimp only at hSw); go_simp; (try with_reducible rfl)); done)); simp only [Act.put, List.setIfInBounds_toArray, List.set_cons_zero, List.set_cons_succ]) | (refine ht_off_light (o := ?_) ?_ ?_ ?_; rotate_left 1; (focus ((simp only [List.getElem?_toArray, List.getElem?_cons_succ, List.getElem?_cons_zero]); (try rfl); done)); (focus (rfl)); simp only [Act.put, List.setIfInBounds_toArray, List.set_cons_zero, List.set_cons_succ]))
  refine ht_one (o := ?_) ?_ ?_ (fun K hK => ?_)
  rotate_left 1
  (focus ((simp only [List.getElem?_toArray, List.getElem?_cons_succ, List.getElem?_cons_zero]); (try rfl); done))
  focus (rfl)
  go_simp
  refine hK.out _ _ ⟨((Fr.refl [] _).alloc _).cell b0 (by simp), ((Fr.refl [] _).alloc _).cell b1 (by simp), ((Fr.refl [] _).alloc _).cell b2 (by simp), ((Fr.refl [] _).alloc _).cell b3 (by simp), ((Fr.refl [] _).alloc _).cell b4 (by simp), ((Fr.refl [] _).alloc _).cell b5 (by simp)⟩ (fun _ => ?_)
  try simp only [Act.put, List.setIfInBounds_toArray, List.set_cons_zero, List.set_cons_succ]
  iterate 1 (first | (refine ht_on (o := ?_) (v := ?_) ?_ ?_ (fun w hSw => ?_) ?_; rotate_left 2; (focus ((simp only [List.getElem?_toArray, List.getElem?_cons_succ, List.getElem?_cons_zero]); (try rfl); done)); (focus (rfl)); (focus (((try obtain ⟨s0, s1, s2, s3, s4, s5⟩ := hSw); (try dsimp only at hSw); go_simp; (try with_reducible rfl)); done)); simp only [Act.put, List.setIfInBounds_toArray, List.set_cons_zero, List.set_cons_succ]) | (refine ht_off_light (o := ?_) ?_ ?_ ?_; rotate_left 1; (focus ((simp only [List.getElem?_toArray, List.getElem?_cons_succ, List.getElem?_cons_zero]); (try rfl); done)); (focus (rfl)); simp only [Act.put, List.setIfInBounds_toArray, List.set_cons_zero, List.set_cons_succ]))
  refine ht_done_np ?_
  go_wp2_with fail
  go_ret
  exact ⟨_, rfl, (new2 w [.string xv, .string xt, .string xk, .int .i64 xi, .int .i64 xs, .slice xa xn xc] 127 [.string xv, .string xt, .string xk, .int .i64 xi, .int .i64 xs, .slice xa xn xc, .pointer p, .int .i64 ((n : Int) + 1)] 147).2.1.drew, (hfa.alloc _).drew⟩
end Go.Proofs.Ytcnoaflojojfkab.Rn
