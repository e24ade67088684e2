/- SeqsNil: what is nil tells nothing: the iterators of none, and the walk of the law. No condition. -/
import Derived.Test.YtcnoaflojojfkabSeqsSome
import Derived.Test.YtcnoaflojojfkabPlan
namespace Go.Proofs.Ytcnoaflojojfkab.Seqs
open Go.RowKit Go.Shelf
set_option linter.unusedVariables false
set_option linter.unusedSimpArgs false
set_option maxRecDepth 100000
attribute [local go_sem] Oper.semAt_some eq_fn eq_nil

/-- the marks of loops over iterators that were begun, taken one behind the other -/
def takeAll : List Nat → World → World
  | [], W => W
  | D :: Ds, W => takeAll Ds (W.putObj D (.deferred none))
theorem takeAll_fr {S : List Nat} {w : World} : ∀ (Ds : List Nat) {W : World}, Fr S w W → (∀ D ∈ Ds, w.heap.size ≤ D) → Fr S w (takeAll Ds W)
  | [], _, h, _ => h
  | D :: Ds, _, h, hD => takeAll_fr Ds (h.taken (hD D (by simp)) _) (fun D' h' => hD D' (by simp [h']))
theorem takeAll_blk {b : Nat} {cs : List Value} {t : TypeId} : ∀ (Ds : List Nat) {W : World}, Blk W b cs t → Ds.Nodup → (∀ D ∈ Ds, W.heap[D]? = some (.deferred (some []))) → Blk (takeAll Ds W) b cs t
  | [], _, h, _, _ => h
  | D :: Ds, W, h, hn, hD => takeAll_blk Ds (h.taken (hD D (by simp)) _) (List.nodup_cons.1 hn).2 (fun D' h' => (World.putObj_heap_other (by rintro rfl; exact (List.nodup_cons.1 hn).1 h')).trans (hD D' (by simp [h'])))
theorem leavesInM_all {P : Program} {fn : Func} {R : Ending → World → Prop} {t : Array Value} {v : Value} {n : Nat} : ∀ (Ds : List Nat) {W : World}, Ds.Nodup → (∀ D ∈ Ds, W.heap[D]? = some (.deferred (some []))) →
    (results fn t).run P (takeAll Ds W) = .ok v (takeAll Ds W) → R (.returned v) (takeAll Ds W) → LeavesInM Fence.wide n P fn t R (Ds.map fun D => { target := .collected D, args := #[] }) .returning W
  | [], W, _, _, hv, hR => ⟨v, hv, hR⟩
  | D :: Ds, W, hn, hD, hv, hR => ⟨by simp, .inl ⟨D, _, rfl, run_takeDeferred (hD D (by simp)), leavesInM_all Ds (List.nodup_cons.1 hn).2 (fun D' h' => (World.putObj_heap_other (by rintro rfl; exact (List.nodup_cons.1 hn).1 h')).trans (hD D' (by simp [h']))) hv hR⟩⟩
theorem leaves_loops {P : Program} {fn : Func} {R : Ending → World → Prop} {t : Array Value} {W : World} {v : Value} {n : Nat} (Ds : List Nat) (hn : Ds.Nodup) (hD : ∀ D ∈ Ds, W.heap[D]? = some (.deferred (some [])))
    (hv : (results fn t).run P (takeAll Ds W) = .ok v (takeAll Ds W)) (hR : R (.returned v) (takeAll Ds W)) : bodyPostM Fence.wide n P fn R .ret { tmps := t, defers := Ds.map fun D => { target := .collected D, args := #[] } } W :=
  leavesInM_all Ds hn hD hv hR
theorem calls8_marks {P : Program} {f : FuncId} {fn : Func} {c : Code} {args : Array Value} {w : World} {R : Ending → World → Prop} (hf : P.funcs[f]? = some fn) (hb : fn.body = some c)
    (h : c.wp P (bodyPostM Fence.wide 8 P fn R) { tmps := args ++ Array.replicate (fn.ntmps - args.size) undef, defers := [] } w) : CallsIn Fence.wide 8 P f args w R :=
  callsIn_of_wp_marks hf hb trivial (wpIn_wide.2 h) rfl

theorem take_nil_stops {α : Type} (encs : α → Array Value) (O0 : Nat → Prop) (S Sp : List α → World → Prop) (N : Nat) (B1 B2 : Nat) (n : Int) (w : World) (hB1 : Blk w B1 [.nilFunc] 36) (hB2 : Blk w B2 [.int .i64 n] 3) (hS : ∀ W, S [] W) :
    SeqT Try.prog 66 #[.pointer (some ⟨B1, 0, none⟩), .pointer (some ⟨B2, 0, none⟩)] encs [] O0 S Sp N w := by
  intro l J Jx W hW hl1 hl2 hJ hJx hY h0
  have q1 := (show Blk W B1 [.nilFunc] 36 from (hW.block B1 hB1.lt).trans hB1).cell_at (o := 0) rfl
  have z1 := World.block_lt_of_cell? W _ q1
  have y1 : ¬ B1 = W.heap.size := by have : B1 < W.heap.size := z1; omega
  have x1 : ¬ B1 = W.heap.size + 1 := by have : B1 < W.heap.size := z1; omega
  have v1 : ¬ B1 = W.heap.size + 1 + 1 := by have : B1 < W.heap.size := z1; omega
  have q2 := (show Blk W B2 [.int .i64 n] 3 from (hW.block B2 hB2.lt).trans hB2).cell_at (o := 0) rfl
  have z2 := World.block_lt_of_cell? W _ q2
  have y2 : ¬ B2 = W.heap.size := by have : B2 < W.heap.size := z2; omega
  have x2 : ¬ B2 = W.heap.size + 1 := by have : B2 < W.heap.size := z2; omega
  have v2 : ¬ B2 = W.heap.size + 1 + 1 := by have : B2 < W.heap.size := z2; omega
  have u1 : ∀ o1 o2 o3, (((W.alloc o1).alloc o2).alloc o3).cell? ⟨B1, 0, none⟩ = some (.nilFunc) := fun o1 o2 o3 => (((show Blk W B1 [.nilFunc] 36 from (hW.block B1 hB1.lt).trans hB1).alloc o1).alloc o2 |>.alloc o3).cell_at (o := 0) rfl
  have u2 : ∀ o1 o2 o3, (((W.alloc o1).alloc o2).alloc o3).cell? ⟨B2, 0, none⟩ = some (.int .i64 n) := fun o1 o2 o3 => (((show Blk W B2 [.int .i64 n] 3 from (hW.block B2 hB2.lt).trans hB2).alloc o1).alloc o2 |>.alloc o3).cell_at (o := 0) rfl
  have HJ : Hid (∀ A, J [] O0 A → ∀ o, J [] O0 (A.alloc o)) := Lib.hid (fun A h o => hJ _ _ _ _ h (Keeps.alloc _ _ _))
  have HS : Hid (∀ W, S [] W) := hS
  clear hJ hJx hY hS hB1 hB2
  
  refine calls8_marks Try.func66 rfl ?_
  simp only [Try.ntmps66, List.size_toArray, List.length_cons, List.length_nil, Nat.reduceAdd, Nat.reduceSub, Array.replicate_succ, Array.replicate_zero, List.push_toArray, List.append_toArray, List.nil_append, List.cons_append]
  go_wp2
  refine leaves_loops (v := .tuple #[]) [] ?_ ?_ ?_ ?_
  · exact List.nodup_nil
  · intro D h
    cases h
  · exact results_none rfl _ _ _
  · first | exact ⟨⟨_, rfl⟩, .inl ⟨[], O0, HS.out _, by repeat (first | exact h0 | apply HJ.out)⟩⟩ | exact ⟨⟨_, rfl⟩, .inl ⟨[], HS.out _, O0, by repeat (first | exact h0 | apply HJ.out)⟩⟩

theorem skip_nil_stops {α : Type} (encs : α → Array Value) (O0 : Nat → Prop) (S Sp : List α → World → Prop) (N : Nat) (B1 B2 : Nat) (n : Int) (w : World) (hB1 : Blk w B1 [.nilFunc] 36) (hB2 : Blk w B2 [.int .i64 n] 3) (hS : ∀ W, S [] W) :
    SeqT Try.prog 68 #[.pointer (some ⟨B1, 0, none⟩), .pointer (some ⟨B2, 0, none⟩)] encs [] O0 S Sp N w := by
  intro l J Jx W hW hl1 hl2 hJ hJx hY h0
  have q1 := (show Blk W B1 [.nilFunc] 36 from (hW.block B1 hB1.lt).trans hB1).cell_at (o := 0) rfl
  have z1 := World.block_lt_of_cell? W _ q1
  have y1 : ¬ B1 = W.heap.size := by have : B1 < W.heap.size := z1; omega
  have x1 : ¬ B1 = W.heap.size + 1 := by have : B1 < W.heap.size := z1; omega
  have v1 : ¬ B1 = W.heap.size + 1 + 1 := by have : B1 < W.heap.size := z1; omega
  have q2 := (show Blk W B2 [.int .i64 n] 3 from (hW.block B2 hB2.lt).trans hB2).cell_at (o := 0) rfl
  have z2 := World.block_lt_of_cell? W _ q2
  have y2 : ¬ B2 = W.heap.size := by have : B2 < W.heap.size := z2; omega
  have x2 : ¬ B2 = W.heap.size + 1 := by have : B2 < W.heap.size := z2; omega
  have v2 : ¬ B2 = W.heap.size + 1 + 1 := by have : B2 < W.heap.size := z2; omega
  have u1 : ∀ o1 o2 o3, (((W.alloc o1).alloc o2).alloc o3).cell? ⟨B1, 0, none⟩ = some (.nilFunc) := fun o1 o2 o3 => (((show Blk W B1 [.nilFunc] 36 from (hW.block B1 hB1.lt).trans hB1).alloc o1).alloc o2 |>.alloc o3).cell_at (o := 0) rfl
  have u2 : ∀ o1 o2 o3, (((W.alloc o1).alloc o2).alloc o3).cell? ⟨B2, 0, none⟩ = some (.int .i64 n) := fun o1 o2 o3 => (((show Blk W B2 [.int .i64 n] 3 from (hW.block B2 hB2.lt).trans hB2).alloc o1).alloc o2 |>.alloc o3).cell_at (o := 0) rfl
  have HJ : Hid (∀ A, J [] O0 A → ∀ o, J [] O0 (A.alloc o)) := Lib.hid (fun A h o => hJ _ _ _ _ h (Keeps.alloc _ _ _))
  have HS : Hid (∀ W, S [] W) := hS
  clear hJ hJx hY hS hB1 hB2
  
  refine calls8_marks Try.func68 rfl ?_
  simp only [Try.ntmps68, List.size_toArray, List.length_cons, List.length_nil, Nat.reduceAdd, Nat.reduceSub, Array.replicate_succ, Array.replicate_zero, List.push_toArray, List.append_toArray, List.nil_append, List.cons_append]
  go_wp2
  refine leaves_loops (v := .tuple #[]) [] ?_ ?_ ?_ ?_
  · exact List.nodup_nil
  · intro D h
    cases h
  · exact results_none rfl _ _ _
  · first | exact ⟨⟨_, rfl⟩, .inl ⟨[], O0, HS.out _, by repeat (first | exact h0 | apply HJ.out)⟩⟩ | exact ⟨⟨_, rfl⟩, .inl ⟨[], HS.out _, O0, by repeat (first | exact h0 | apply HJ.out)⟩⟩

theorem numbered_nil_stops {α : Type} (encs : α → Array Value) (O0 : Nat → Prop) (S Sp : List α → World → Prop) (N : Nat) (B1 : Nat) (w : World) (hB1 : Blk w B1 [.nilFunc] 36) (hS : ∀ W, S [] W) :
    SeqT Try.prog 70 #[.pointer (some ⟨B1, 0, none⟩)] encs [] O0 S Sp N w := by
  intro l J Jx W hW hl1 hl2 hJ hJx hY h0
  have q1 := (show Blk W B1 [.nilFunc] 36 from (hW.block B1 hB1.lt).trans hB1).cell_at (o := 0) rfl
  have z1 := World.block_lt_of_cell? W _ q1
  have y1 : ¬ B1 = W.heap.size := by have : B1 < W.heap.size := z1; omega
  have x1 : ¬ B1 = W.heap.size + 1 := by have : B1 < W.heap.size := z1; omega
  have v1 : ¬ B1 = W.heap.size + 1 + 1 := by have : B1 < W.heap.size := z1; omega
  have u1 : ∀ o1 o2 o3, (((W.alloc o1).alloc o2).alloc o3).cell? ⟨B1, 0, none⟩ = some (.nilFunc) := fun o1 o2 o3 => (((show Blk W B1 [.nilFunc] 36 from (hW.block B1 hB1.lt).trans hB1).alloc o1).alloc o2 |>.alloc o3).cell_at (o := 0) rfl
  have HJ : Hid (∀ A, J [] O0 A → ∀ o, J [] O0 (A.alloc o)) := Lib.hid (fun A h o => hJ _ _ _ _ h (Keeps.alloc _ _ _))
  have HS : Hid (∀ W, S [] W) := hS
  clear hJ hJx hY hS hB1
  
  refine calls8_marks Try.func70 rfl ?_
  simp only [Try.ntmps70, List.size_toArray, List.length_cons, List.length_nil, Nat.reduceAdd, Nat.reduceSub, Array.replicate_succ, Array.replicate_zero, List.push_toArray, List.append_toArray, List.nil_append, List.cons_append]
  go_wp2
  refine leaves_loops (v := .tuple #[]) [] ?_ ?_ ?_ ?_
  · exact List.nodup_nil
  · intro D h
    cases h
  · exact results_none rfl _ _ _
  · first | exact ⟨⟨_, rfl⟩, .inl ⟨[], O0, HS.out _, by repeat (first | exact h0 | apply HJ.out)⟩⟩ | exact ⟨⟨_, rfl⟩, .inl ⟨[], HS.out _, O0, by repeat (first | exact h0 | apply HJ.out)⟩⟩

theorem steps_nil_stops {α : Type} (encs : α → Array Value) (O0 : Nat → Prop) (S Sp : List α → World → Prop) (N : Nat) (B1 : Nat) (w : World) (hB1 : Blk w B1 [.nilFunc] 36) (hS : ∀ W, S [] W) :
    SeqT Try.prog 72 #[.pointer (some ⟨B1, 0, none⟩)] encs [] O0 S Sp N w := by
  intro l J Jx W hW hl1 hl2 hJ hJx hY h0
  have q1 := (show Blk W B1 [.nilFunc] 36 from (hW.block B1 hB1.lt).trans hB1).cell_at (o := 0) rfl
  have z1 := World.block_lt_of_cell? W _ q1
  have y1 : ¬ B1 = W.heap.size := by have : B1 < W.heap.size := z1; omega
  have x1 : ¬ B1 = W.heap.size + 1 := by have : B1 < W.heap.size := z1; omega
  have v1 : ¬ B1 = W.heap.size + 1 + 1 := by have : B1 < W.heap.size := z1; omega
  have u1 : ∀ o1 o2 o3, (((W.alloc o1).alloc o2).alloc o3).cell? ⟨B1, 0, none⟩ = some (.nilFunc) := fun o1 o2 o3 => (((show Blk W B1 [.nilFunc] 36 from (hW.block B1 hB1.lt).trans hB1).alloc o1).alloc o2 |>.alloc o3).cell_at (o := 0) rfl
  have HJ : Hid (∀ A, J [] O0 A → ∀ o, J [] O0 (A.alloc o)) := Lib.hid (fun A h o => hJ _ _ _ _ h (Keeps.alloc _ _ _))
  have HS : Hid (∀ W, S [] W) := hS
  clear hJ hJx hY hS hB1
  
  refine calls8_marks Try.func72 rfl ?_
  simp only [Try.ntmps72, List.size_toArray, List.length_cons, List.length_nil, Nat.reduceAdd, Nat.reduceSub, Array.replicate_succ, Array.replicate_zero, List.push_toArray, List.append_toArray, List.nil_append, List.cons_append]
  go_wp2
  refine leaves_loops (v := .tuple #[]) [] ?_ ?_ ?_ ?_
  · exact List.nodup_nil
  · intro D h
    cases h
  · exact results_none rfl _ _ _
  · first | exact ⟨⟨_, rfl⟩, .inl ⟨[], O0, HS.out _, by repeat (first | exact h0 | apply HJ.out)⟩⟩ | exact ⟨⟨_, rfl⟩, .inl ⟨[], HS.out _, O0, by repeat (first | exact h0 | apply HJ.out)⟩⟩

theorem chunks_nil_stops {α : Type} (encs : α → Array Value) (O0 : Nat → Prop) (S Sp : List α → World → Prop) (N : Nat) (B1 B2 : Nat) (n : Int) (w : World) (hB1 : Blk w B1 [.nilFunc] 36) (hB2 : Blk w B2 [.int .i64 n] 3) (hS : ∀ W, S [] W) :
    SeqT Try.prog 71 #[.pointer (some ⟨B1, 0, none⟩), .pointer (some ⟨B2, 0, none⟩)] encs [] O0 S Sp N w := by
  intro l J Jx W hW hl1 hl2 hJ hJx hY h0
  have q1 := (show Blk W B1 [.nilFunc] 36 from (hW.block B1 hB1.lt).trans hB1).cell_at (o := 0) rfl
  have z1 := World.block_lt_of_cell? W _ q1
  have y1 : ¬ B1 = W.heap.size := by have : B1 < W.heap.size := z1; omega
  have x1 : ¬ B1 = W.heap.size + 1 := by have : B1 < W.heap.size := z1; omega
  have v1 : ¬ B1 = W.heap.size + 1 + 1 := by have : B1 < W.heap.size := z1; omega
  have q2 := (show Blk W B2 [.int .i64 n] 3 from (hW.block B2 hB2.lt).trans hB2).cell_at (o := 0) rfl
  have z2 := World.block_lt_of_cell? W _ q2
  have y2 : ¬ B2 = W.heap.size := by have : B2 < W.heap.size := z2; omega
  have x2 : ¬ B2 = W.heap.size + 1 := by have : B2 < W.heap.size := z2; omega
  have v2 : ¬ B2 = W.heap.size + 1 + 1 := by have : B2 < W.heap.size := z2; omega
  have u1 : ∀ o1 o2 o3, (((W.alloc o1).alloc o2).alloc o3).cell? ⟨B1, 0, none⟩ = some (.nilFunc) := fun o1 o2 o3 => (((show Blk W B1 [.nilFunc] 36 from (hW.block B1 hB1.lt).trans hB1).alloc o1).alloc o2 |>.alloc o3).cell_at (o := 0) rfl
  have u2 : ∀ o1 o2 o3, (((W.alloc o1).alloc o2).alloc o3).cell? ⟨B2, 0, none⟩ = some (.int .i64 n) := fun o1 o2 o3 => (((show Blk W B2 [.int .i64 n] 3 from (hW.block B2 hB2.lt).trans hB2).alloc o1).alloc o2 |>.alloc o3).cell_at (o := 0) rfl
  have HJ : Hid (∀ A, J [] O0 A → ∀ o, J [] O0 (A.alloc o)) := Lib.hid (fun A h o => hJ _ _ _ _ h (Keeps.alloc _ _ _))
  have HS : Hid (∀ W, S [] W) := hS
  clear hJ hJx hY hS hB1 hB2
  
  refine calls8_marks Try.func71 rfl ?_
  simp only [Try.ntmps71, List.size_toArray, List.length_cons, List.length_nil, Nat.reduceAdd, Nat.reduceSub, Array.replicate_succ, Array.replicate_zero, List.push_toArray, List.append_toArray, List.nil_append, List.cons_append]
  go_wp2
  refine leaves_loops (v := .tuple #[]) [] ?_ ?_ ?_ ?_
  · exact List.nodup_nil
  · intro D h
    cases h
  · exact results_none rfl _ _ _
  · first | exact ⟨⟨_, rfl⟩, .inl ⟨[], O0, HS.out _, by repeat (first | exact h0 | apply HJ.out)⟩⟩ | exact ⟨⟨_, rfl⟩, .inl ⟨[], HS.out _, O0, by repeat (first | exact h0 | apply HJ.out)⟩⟩

theorem once_nil_stops {α : Type} (encs : α → Array Value) (O0 : Nat → Prop) (S Sp : List α → World → Prop) (N : Nat) (B1 : Nat) (w : World) (hB1 : Blk w B1 [.nilFunc] 36) (hS : ∀ W, S [] W) :
    SeqT Try.prog 73 #[.pointer (some ⟨B1, 0, none⟩)] encs [] O0 S Sp N w := by
  intro l J Jx W hW hl1 hl2 hJ hJx hY h0
  have q1 := (show Blk W B1 [.nilFunc] 36 from (hW.block B1 hB1.lt).trans hB1).cell_at (o := 0) rfl
  have z1 := World.block_lt_of_cell? W _ q1
  have y1 : ¬ B1 = W.heap.size := by have : B1 < W.heap.size := z1; omega
  have x1 : ¬ B1 = W.heap.size + 1 := by have : B1 < W.heap.size := z1; omega
  have v1 : ¬ B1 = W.heap.size + 1 + 1 := by have : B1 < W.heap.size := z1; omega
  have u1 : ∀ o1 o2 o3, (((W.alloc o1).alloc o2).alloc o3).cell? ⟨B1, 0, none⟩ = some (.nilFunc) := fun o1 o2 o3 => (((show Blk W B1 [.nilFunc] 36 from (hW.block B1 hB1.lt).trans hB1).alloc o1).alloc o2 |>.alloc o3).cell_at (o := 0) rfl
  have HJ : Hid (∀ A, J [] O0 A → ∀ o, J [] O0 (A.alloc o)) := Lib.hid (fun A h o => hJ _ _ _ _ h (Keeps.alloc _ _ _))
  have HS : Hid (∀ W, S [] W) := hS
  clear hJ hJx hY hS hB1
  have hmm := @run_makeMap Try.prog
  refine calls8_marks Try.func73 rfl ?_
  simp only [Try.ntmps73, List.size_toArray, List.length_cons, List.length_nil, Nat.reduceAdd, Nat.reduceSub, Array.replicate_succ, Array.replicate_zero, List.push_toArray, List.append_toArray, List.nil_append, List.cons_append]
  go_wp2
  refine leaves_loops (v := .tuple #[]) [] ?_ ?_ ?_ ?_
  · exact List.nodup_nil
  · intro D h
    cases h
  · exact results_none rfl _ _ _
  · first | exact ⟨⟨_, rfl⟩, .inl ⟨[], O0, HS.out _, by repeat (first | exact h0 | apply HJ.out)⟩⟩ | exact ⟨⟨_, rfl⟩, .inl ⟨[], HS.out _, O0, by repeat (first | exact h0 | apply HJ.out)⟩⟩

theorem take_nil (n : Int) (w : World) : Calls Try.prog 29 #[.nilFunc, .int .i64 n] w fun e w' => (∃ f, e = .returned f ∧ It w' [w.heap.size, w.heap.size + 1] f []) ∧ Fr [] w w' := by
  obtain ⟨b1, b2, f0⟩ := new2 w [.nilFunc] 36 [.int .i64 n] 3
  have HB1 := Lib.hid b1
  have HB2 := Lib.hid b2
  have HF := Lib.hid f0
  clear b1 b2 f0
  go_enter Try.func29, Try.ntmps29
  go_wp2
  go_ret
  refine ⟨⟨_, rfl, _, _, rfl, enters_of Try.func66 (by kernel_rfl) rfl, ?_, fun w' O0 h1 h2 h3 h4 => take_nil_stops _ O0 _ _ _ w.heap.size (w.heap.size + 1) n w' (HB1.out.of_eq (h2 _ (by simp))) (HB2.out.of_eq (h2 _ (by simp))) (fun _ => rfl)⟩, HF.out⟩
  intro b hb
  simp at hb
  have h1 := HB1.out.lt
  have h2 := HB2.out.lt
  rcases hb with rfl | rfl <;> assumption

theorem skip_nil (n : Int) (w : World) : Calls Try.prog 31 #[.nilFunc, .int .i64 n] w fun e w' => (∃ f, e = .returned f ∧ It w' [w.heap.size, w.heap.size + 1] f []) ∧ Fr [] w w' := by
  obtain ⟨b1, b2, f0⟩ := new2 w [.nilFunc] 36 [.int .i64 n] 3
  have HB1 := Lib.hid b1
  have HB2 := Lib.hid b2
  have HF := Lib.hid f0
  clear b1 b2 f0
  go_enter Try.func31, Try.ntmps31
  go_wp2
  go_ret
  refine ⟨⟨_, rfl, _, _, rfl, enters_of Try.func68 (by kernel_rfl) rfl, ?_, fun w' O0 h1 h2 h3 h4 => skip_nil_stops _ O0 _ _ _ w.heap.size (w.heap.size + 1) n w' (HB1.out.of_eq (h2 _ (by simp))) (HB2.out.of_eq (h2 _ (by simp))) (fun _ => rfl)⟩, HF.out⟩
  intro b hb
  simp at hb
  have h1 := HB1.out.lt
  have h2 := HB2.out.lt
  rcases hb with rfl | rfl <;> assumption

theorem once_nil (w : World) : Calls Try.prog 42 #[.nilFunc] w fun e w' => (∃ f, e = .returned f ∧ It w' [w.heap.size] f []) ∧ Fr [] w w' := by
  obtain ⟨b1, f0⟩ := new1 w [.nilFunc] 36
  have HB1 := Lib.hid b1
  have HF := Lib.hid f0
  clear b1 f0
  go_enter Try.func42, Try.ntmps42
  go_wp2
  go_ret
  refine ⟨⟨_, rfl, _, _, rfl, enters_of Try.func73 (by kernel_rfl) rfl, ?_, fun w' O0 h1 h2 h3 h4 => once_nil_stops _ O0 _ _ _ w.heap.size w' (HB1.out.of_eq (h2 _ (by simp))) (fun _ => rfl)⟩, HF.out⟩
  intro b hb
  simp at hb
  have h1 := HB1.out.lt
  subst hb; exact h1

theorem numbered_nil (w : World) : Calls Try.prog 39 #[.nilFunc] w fun e w' => e = .returned (.func (.func 70) #[] #[.pointer (some ⟨w.heap.size, 0, none⟩)]) ∧ Fr [] w w' ∧ Blk w' w.heap.size [.nilFunc] 36 := by
  obtain ⟨b1, f0⟩ := new1 w [.nilFunc] 36
  have HB1 := Lib.hid b1
  have HF := Lib.hid f0
  clear b1 f0
  go_enter Try.func39, Try.ntmps39
  go_wp2
  go_ret
  exact ⟨rfl, HF.out, HB1.out⟩

theorem steps_nil (w : World) : Calls Try.prog 41 #[.nilFunc] w fun e w' => e = .returned (.func (.func 72) #[] #[.pointer (some ⟨w.heap.size, 0, none⟩)]) ∧ Fr [] w w' ∧ Blk w' w.heap.size [.nilFunc] 36 := by
  obtain ⟨b1, f0⟩ := new1 w [.nilFunc] 36
  have HB1 := Lib.hid b1
  have HF := Lib.hid f0
  clear b1 f0
  go_enter Try.func41, Try.ntmps41
  go_wp2
  go_ret
  exact ⟨rfl, HF.out, HB1.out⟩

theorem chunks_nil (n : Int) (w : World) : Calls Try.prog 40 #[.nilFunc, .int .i64 n] w fun e w' => e = .returned (.func (.func 71) #[] #[.pointer (some ⟨w.heap.size, 0, none⟩), .pointer (some ⟨w.heap.size + 1, 0, none⟩)]) ∧ Fr [] w w' ∧ Blk w' w.heap.size [.nilFunc] 36 ∧ Blk w' (w.heap.size + 1) [.int .i64 n] 3 := by
  obtain ⟨b1, b2, f0⟩ := new2 w [.nilFunc] 36 [.int .i64 n] 3
  have HB1 := Lib.hid b1
  have HB2 := Lib.hid b2
  have HF := Lib.hid f0
  clear b1 b2 f0
  go_enter Try.func40, Try.ntmps40
  go_wp2
  go_ret
  exact ⟨rfl, HF.out, HB1.out, HB2.out⟩

theorem index2 (k : Nat) (h : k < 2) (w : World) : (Instr.index 111 (.agg #[.nilFunc, .nilFunc]) (.int .i64 (k : Int))).run Try.prog w = .ok .nilFunc w := by
  rcases (show k = 0 ∨ k = 1 by omega) with rfl | rfl <;> kernel_rfl
theorem both_nil_stops {α : Type} (encs : α → Array Value) (O0 : Nat → Prop) (S Sp : List α → World → Prop) (N : Nat) (B1 B2 : Nat) (w : World) (hB1 : Blk w B1 [.nilFunc] 36) (hB2 : Blk w B2 [.nilFunc] 36) (hS : ∀ W, S [] W) :
    SeqT Try.prog 69 #[.pointer (some ⟨B1, 0, none⟩), .pointer (some ⟨B2, 0, none⟩)] encs [] O0 S Sp N w := by
  intro l J Jx W hW hl1 hl2 hJ hJx hY h0
  have q1 := (show Blk W B1 [.nilFunc] 36 from (hW.block B1 hB1.lt).trans hB1).cell_at (o := 0) rfl
  have q2 := (show Blk W B2 [.nilFunc] 36 from (hW.block B2 hB2.lt).trans hB2).cell_at (o := 0) rfl
  have u1 : ∀ o1, (W.alloc o1).cell? ⟨B1, 0, none⟩ = some (.nilFunc) := fun o1 => ((show Blk W B1 [.nilFunc] 36 from (hW.block B1 hB1.lt).trans hB1).alloc o1).cell_at (o := 0) rfl
  have u2 : ∀ o1, (W.alloc o1).cell? ⟨B2, 0, none⟩ = some (.nilFunc) := fun o1 => ((show Blk W B2 [.nilFunc] 36 from (hW.block B2 hB2.lt).trans hB2).alloc o1).cell_at (o := 0) rfl
  have HJ : Hid (∀ A, J [] O0 A → ∀ o, J [] O0 (A.alloc o)) := Lib.hid (fun A h o => hJ _ _ _ _ h (Keeps.alloc _ _ _))
  have HS : Hid (∀ W, S [] W) := hS
  have H0 := Lib.hid h0
  clear hJ hJx hY hS hB1 hB2 h0
  refine calls8_marks Try.func69 rfl ?_
  simp only [Try.ntmps69, List.size_toArray, List.length_cons, List.length_nil, Nat.reduceAdd, Nat.reduceSub, Array.replicate_succ, Array.replicate_zero, List.push_toArray, List.append_toArray, List.nil_append, List.cons_append]
  go_wp2_with fail
  go_loopw [10] (fun v wr => ∃ k : Nat, k ≤ 2 ∧ v = .int .i64 k ∧ wr = W.alloc (.cells #[.func (.yield l) #[] #[]] 63)) (fun v _ => 2 - (intOf v).toNat)
  case atStart => exact ⟨0, by omega, rfl, by first | rfl | trivial⟩
  case round =>
    obtain ⟨k, hk, rfl, rfl⟩ := hrel
    by_cases hlt : k < 2
    · have hi := fun w => index2 k hlt w
      go_wp2
      go_roundw
      case rel => exact ⟨k + 1, by omega, by go_num, by first | rfl | trivial⟩
      case measure => simp [intOf]; omega
    · have hd : decide ((k : Int) < 2) = false := decide_eq_false (by omega)
      go_wp2
      refine leaves_loops (v := .tuple #[]) [] ?_ ?_ ?_ ?_
      · exact List.nodup_nil
      · intro D h
        cases h
      · exact results_none rfl _ _ _
      · first | exact ⟨⟨_, rfl⟩, .inl ⟨[], O0, HS.out _, by repeat (first | exact H0.out | apply HJ.out)⟩⟩ | exact ⟨⟨_, rfl⟩, .inl ⟨[], HS.out _, O0, by repeat (first | exact H0.out | apply HJ.out)⟩⟩

theorem both_nil (w : World) : Calls Try.prog 32 #[.nilFunc, .nilFunc] w fun e w' => (∃ f, e = .returned f ∧ It w' [w.heap.size, w.heap.size + 1] f []) ∧ Fr [] w w' := by
  obtain ⟨b1, b2, f0⟩ := new2 w [.nilFunc] 36 [.nilFunc] 36
  have HB1 := Lib.hid b1
  have HB2 := Lib.hid b2
  have HF := Lib.hid f0
  clear b1 b2 f0
  go_enter Try.func32, Try.ntmps32
  go_wp2
  go_ret
  refine ⟨⟨_, rfl, _, _, rfl, enters_of Try.func69 (by kernel_rfl) rfl, ?_, fun w' O0 h1 h2 h3 h4 => both_nil_stops _ O0 _ _ _ w.heap.size (w.heap.size + 1) w' (HB1.out.of_eq (h2 _ (by simp))) (HB2.out.of_eq (h2 _ (by simp))) (fun _ => rfl)⟩, HF.out⟩
  intro b hb
  simp at hb
  have h1 := HB1.out.lt
  have h2 := HB2.out.lt
  rcases hb with rfl | rfl <;> assumption

theorem all_it (D : List Nat) (f : Value) (xs : List Int) (w : World) (h : It w D f xs) (hx : xs.length ≤ 1000) :
    Calls Try.prog 28 #[f] w fun e w' => (∃ a c, e = .returned (.slice a xs.length c) ∧ View w' w.heap.size 3 1 (.slice a xs.length c) xs.length (xs.map (Value.int .i64))) ∧ Fr [] w w' := by
  have HC := Lib.hid (some_it D f xs 1000 xs.length (by omega) w h (by omega) (by omega) (by omega))
  clear h
  go_enter Try.func28, Try.ntmps28
  go_wp2_with fail
  refine HC.out.mono ?_
  rintro e w1 ⟨⟨a, c, rfl, hv⟩, hf⟩
  have HV := Lib.hid hv
  have HF := Lib.hid hf
  clear hv hf
  go_wp2
  go_ret
  refine ⟨⟨a, c, rfl, ?_⟩, HF.out⟩
  have := HV.out
  rwa [List.take_of_length_le (Nat.le_refl _)] at this
theorem same_true (va vb : Value) (za zb : List Int) (w : World) (n : Nat) (ha : Reads w 1 va n (za.map (Value.int .i64))) (hb : Reads w 1 vb n (zb.map (Value.int .i64))) (he : za = zb) (hn : n ≤ 1000000) :
    Calls Try.prog 33 #[va, vb] w fun e w' => e = .returned (.bool true) ∧ Fr [] w w' := by
  obtain rfl := len_reads ha
  subst he
  refine (same_any va vb za za w ha hb (by omega)).mono ?_
  rintro e w' ⟨he, k, hk⟩
  exact ⟨by rw [he]; simp, Fr.of_drewN hk⟩
theorem lit_reads (w : World) (zs : List Int) (hz : zs ≠ []) (hm : zs.length ≤ 1000) : ReadsD (w.alloc (.cells (zs.map (Value.int .i64)).toArray 3)) [w.heap.size] (.slice (some ⟨w.heap.size, 0, none⟩) zs.length zs.length) zs :=
  ⟨(View.of_blk (B := 0) (Blk.new w _ 3) (Nat.zero_le _) (by simp) (by unfold maxLen; omega)).reads, by simp, fun _ => ⟨_, _, _, rfl, by simp⟩⟩
set_option maxHeartbeats 1000000 in
theorem awake_any (w : World) : Calls Try.prog 27 #[] w fun e w' => e = .returned (.bool true) ∧ Fr [] w w' := by
  have R0 : Hid (∀ w, ReadsD (w.alloc (.cells #[.int .i64 1, .int .i64 2, .int .i64 3] 3)) [w.heap.size] (.slice (some ⟨w.heap.size, 0, none⟩) 3 3) [1, 2, 3] ∧ Fr [] w (w.alloc (.cells #[.int .i64 1, .int .i64 2, .int .i64 3] 3))) := Lib.hid (fun w => ⟨lit_reads w [1, 2, 3] (by simp) (by simp), (Fr.refl _ _).alloc _⟩)
  have R1 : Hid (∀ w, ReadsD (w.alloc (.cells #[.int .i64 1, .int .i64 2] 3)) [w.heap.size] (.slice (some ⟨w.heap.size, 0, none⟩) 2 2) [1, 2] ∧ Fr [] w (w.alloc (.cells #[.int .i64 1, .int .i64 2] 3))) := Lib.hid (fun w => ⟨lit_reads w [1, 2] (by simp) (by simp), (Fr.refl _ _).alloc _⟩)
  go_enter Try.func27, Try.ntmps27
  go_wp2_with fail
  refine (of_it _ _ [1, 2, 3] _ (R0.out w).1 (by simp)).mono ?_
  rintro e w1 ⟨⟨f, rfl, hi⟩, hf⟩
  have HI := Lib.hid hi
  have H1 := Lib.hid ((R0.out w).2.trans0 hf)
  clear hi hf
  go_wp2_with fail
  refine (some_it _ f [1, 2, 3] 2 2 (by simp; omega) w1 HI.out (by omega) (by omega) (by simp)).mono ?_
  rintro e w2 ⟨⟨a, c, rfl, hv⟩, hf⟩
  have HV := Lib.hid hv
  have H2 := Lib.hid (H1.out.trans0 hf)
  clear hv hf
  go_wp2_with fail
  refine (same_true _ _ [1, 2] [1, 2] _ 2 (HV.out.reads.fr0 (R1.out w2).2) (R1.out w2).1.rd rfl (by omega)).mono ?_
  rintro e w3 ⟨rfl, hf⟩
  have H3 := Lib.hid ((H2.out.trans0 (R1.out w2).2).trans0 hf)
  clear hf
  go_wp2_with fail
  refine (of_it _ _ [1, 2, 3] _ (R0.out w3).1 (by simp)).mono ?_
  rintro e w4 ⟨⟨g, rfl, hi⟩, hf⟩
  have HG := Lib.hid hi
  have H4 := Lib.hid ((H3.out.trans0 (R0.out w3).2).trans0 hf)
  clear hi hf
  go_wp2_with fail
  refine (count_it _ g [1, 2, 3] w4 HG.out (by simp)).mono ?_
  rintro e w5 ⟨rfl, hf⟩
  have H5 := Lib.hid (H4.out.trans0 hf)
  clear hf
  go_wp2
  go_ret
  exact ⟨rfl, H5.out⟩
end Go.Proofs.Ytcnoaflojojfkab.Seqs
