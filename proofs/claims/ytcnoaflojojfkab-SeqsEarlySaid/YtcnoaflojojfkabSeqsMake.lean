/- What makes an iterator over iterators of numbers. No condition. -/
import Derived.Test.YtcnoaflojojfkabSeqsBoth
namespace Go.Proofs.Ytcnoaflojojfkab.Seqs
open Go.RowKit Go.Shelf
set_option linter.unusedVariables false
set_option linter.unusedSimpArgs false
set_option maxRecDepth 100000
attribute [local go_sem] Oper.semAt_some eq_fn eq_nil

theorem take_le_stops {α : Type} (encs : α → Array Value) (O0 : Nat → Prop) (S Sp : List α → World → Prop) (N : Nat) (B1 B2 gf : Nat) (lb : Array Value) (n : Int) (w : World) (hB1 : Blk w B1 [.func (.func gf) #[] lb] 36) (hB2 : Blk w B2 [.int .i64 n] 3) (hn : n ≤ 0) (hS : ∀ W, S [] W) :
    SeqT Try.prog 66 #[.pointer (some ⟨B1, 0, none⟩), .pointer (some ⟨B2, 0, none⟩)] encs [] O0 S Sp N w := by
  intro l J Jx W hW hl1 hl2 hJ hJx hY h0
  have b1 : Blk W B1 [.func (.func gf) #[] lb] 36 := (hW.block B1 hB1.lt).trans hB1
  have b2 : Blk W B2 [.int .i64 n] 3 := (hW.block B2 hB2.lt).trans hB2
  have u1 : ∀ o1 o2, ((W.alloc o1).alloc o2).cell? ⟨B1, 0, none⟩ = some (.func (.func gf) #[] lb) := fun o1 o2 => ((b1.alloc o1).alloc o2).cell_at (o := 0) rfl
  have u2 : ∀ o1 o2, ((W.alloc o1).alloc o2).cell? ⟨B2, 0, none⟩ = some (.int .i64 n) := fun o1 o2 => ((b2.alloc o1).alloc o2).cell_at (o := 0) rfl
  have HJ : Hid (∀ A, J [] O0 A → ∀ o, J [] O0 (A.alloc o)) := Lib.hid (fun A h o => hJ _ _ _ _ h (Keeps.alloc _ _ _))
  have HS : Hid (∀ W, S [] W) := hS
  have hd : decide (n ≤ 0) = true := decide_eq_true hn
  have H0 := Lib.hid h0
  clear hJ hJx hY hS hB1 hB2 b1 b2 h0
  refine calls8_marks Try.func66 rfl ?_
  simp only [Try.ntmps66, List.size_toArray, List.length_cons, List.length_nil, Nat.reduceAdd, Nat.reduceSub, Array.replicate_succ, Array.replicate_zero, List.push_toArray, List.append_toArray, List.nil_append, List.cons_append]
  go_wp2
  refine leaves_loops (v := .tuple #[]) [] ?_ ?_ ?_ ?_
  · exact List.nodup_nil
  · intro D h
    cases h
  · exact results_none rfl _ _ _
  · first | exact ⟨⟨_, rfl⟩, .inl ⟨[], O0, HS.out _, by repeat (first | exact H0.out | apply HJ.out)⟩⟩ | exact ⟨⟨_, rfl⟩, .inl ⟨[], HS.out _, O0, by repeat (first | exact H0.out | apply HJ.out)⟩⟩

set_option maxHeartbeats 1000000 in
theorem take_it (D : List Nat) (f : Value) (xs : List Int) (n : Int) (w : World) (hi : It w D f xs) (hx : xs.length ≤ 100000) :
    Calls Try.prog 29 #[f, .int .i64 n] w fun e w' => (∃ h, e = .returned h ∧ It w' (w.heap.size :: (w.heap.size + 1) :: D) h (xs.take n.toNat)) ∧ Fr [] w w' := by
  obtain ⟨b1, b2, f0⟩ := new2 w [f] 36 [.int .i64 n] 3
  have HI := Lib.hid (hi.fr0 f0)
  have HB1 := Lib.hid b1
  have HB2 := Lib.hid b2
  have HF := Lib.hid f0
  obtain ⟨gf, lb, rfl, _, hDs, _⟩ := hi
  have HDs : Hid (∀ b ∈ D, b < w.heap.size) := Lib.hid (by exact hDs)
  clear b1 b2 f0 hDs
  go_enter Try.func29, Try.ntmps29
  go_wp2
  go_ret
  refine ⟨⟨_, rfl, _, _, rfl, enters_of Try.func66 (by kernel_rfl) rfl, ?_, fun w' O0 h1 h2 h3 h4 => ?_⟩, HF.out⟩
  · intro b hb
    have h1 := HB1.out.lt
    have h2 := HB2.out.lt
    rcases List.mem_cons.1 hb with rfl | hb
    · exact h1
    · rcases List.mem_cons.1 hb with rfl | hb
      · exact h2
      · exact Nat.lt_of_lt_of_le (HDs.out b hb) HF.out.size
  · by_cases hn : n ≤ 0
    · rw [show n.toNat = 0 by omega, List.take_zero]
      exact take_le_stops _ O0 _ _ _ _ _ _ _ n w' (HB1.out.of_eq (h2 _ (by simp))) (HB2.out.of_eq (h2 _ (by simp))) hn (fun _ => rfl)
    · obtain ⟨m, rfl⟩ : ∃ m : Nat, n = m := ⟨n.toNat, by omega⟩
      rw [Int.toNat_natCast]
      exact take_stops _ _ D _ xs m _ w' O0 HB1.out HB2.out HI.out hx (by omega) h1 h2 h3 h4

set_option maxHeartbeats 1000000 in
theorem skip_it (D : List Nat) (f : Value) (xs : List Int) (n : Int) (w : World) (hi : It w D f xs) (hx : xs.length ≤ 100000) :
    Calls Try.prog 31 #[f, .int .i64 n] w fun e w' => (∃ h, e = .returned h ∧ It w' (w.heap.size :: (w.heap.size + 1) :: D) h (xs.drop n.toNat)) ∧ Fr [] w w' := by
  obtain ⟨b1, b2, f0⟩ := new2 w [f] 36 [.int .i64 n] 3
  have HI := Lib.hid (hi.fr0 f0)
  have HB1 := Lib.hid b1
  have HB2 := Lib.hid b2
  have HF := Lib.hid f0
  obtain ⟨gf, lb, rfl, _, hDs, _⟩ := hi
  have HDs : Hid (∀ b ∈ D, b < w.heap.size) := Lib.hid (by exact hDs)
  clear b1 b2 f0 hDs
  go_enter Try.func31, Try.ntmps31
  go_wp2
  go_ret
  refine ⟨⟨_, rfl, _, _, rfl, enters_of Try.func68 (by kernel_rfl) rfl, ?_, fun w' O0 h1 h2 h3 h4 => ?_⟩, HF.out⟩
  · intro b hb
    have h1 := HB1.out.lt
    have h2 := HB2.out.lt
    rcases List.mem_cons.1 hb with rfl | hb
    · exact h1
    · rcases List.mem_cons.1 hb with rfl | hb
      · exact h2
      · exact Nat.lt_of_lt_of_le (HDs.out b hb) HF.out.size
  · exact skip_stops _ _ D _ xs n _ rfl _ w' O0 HB1.out HB2.out HI.out hx h1 h2 h3 h4

set_option maxHeartbeats 1000000 in
theorem both_it (D D2 : List Nat) (f g : Value) (xs ys : List Int) (w : World) (hi : It w D f xs) (hg : It w D2 g ys) :
    Calls Try.prog 32 #[f, g] w fun e w' => (∃ h, e = .returned h ∧ It w' (w.heap.size :: (w.heap.size + 1) :: (D ++ D2)) h (xs ++ ys)) ∧ Fr [] w w' := by
  obtain ⟨b1, b2, f0⟩ := new2 w [f] 36 [g] 36
  have HI := Lib.hid (hi.fr0 f0)
  have HG := Lib.hid (hg.fr0 f0)
  have HB1 := Lib.hid b1
  have HB2 := Lib.hid b2
  have HF := Lib.hid f0
  obtain ⟨gf, lb, rfl, _, hDs, _⟩ := hi
  obtain ⟨gg, lb2, rfl, _, hDs2, _⟩ := hg
  have HDs : Hid (∀ b ∈ D ++ D2, b < w.heap.size) := Lib.hid (by intro b hb; rcases List.mem_append.1 hb with h | h; exact hDs b h; exact hDs2 b h)
  clear b1 b2 f0 hDs hDs2
  go_enter Try.func32, Try.ntmps32
  go_wp2
  go_ret
  refine ⟨⟨_, rfl, _, _, rfl, enters_of Try.func69 (by kernel_rfl) rfl, ?_, fun w' O0 h1 h2 h3 h4 => ?_⟩, HF.out⟩
  · intro b hb
    have h1 := HB1.out.lt
    have h2 := HB2.out.lt
    rcases List.mem_cons.1 hb with rfl | hb
    · exact h1
    · rcases List.mem_cons.1 hb with rfl | hb
      · exact h2
      · exact Nat.lt_of_lt_of_le (HDs.out b hb) HF.out.size
  · exact both_stops _ _ D D2 _ _ xs ys _ w' O0 HB1.out HB2.out HI.out HG.out h1 h2 h3 h4

theorem all_n (D : List Nat) (f : Value) (xs : List Int) (n : Nat) (hn : xs.length = n) (w : World) (h : It w D f xs) (hx : n ≤ 1000) :
    Calls Try.prog 28 #[f] w fun e w' => (∃ a c, e = .returned (.slice a n c) ∧ View w' w.heap.size 3 1 (.slice a n c) n (xs.map (Value.int .i64))) ∧ Fr [] w w' := by
  subst hn
  exact all_it D f xs w h hx
theorem count_n (D : List Nat) (f : Value) (xs : List Int) (n : Nat) (hn : xs.length = n) (w : World) (h : It w D f xs) (hx : n ≤ 100000) :
    Calls Try.prog 34 #[f] w fun e w' => e = .returned (.int .i64 n) ∧ Fr [] w w' := by
  subst hn
  exact count_it D f xs w h hx
/-- s[k:] of a slice that can be read -/
theorem cut_run (a : Option Addr) (n c k : Nat) (hk : k ≤ n) (hc : n ≤ c) : ∃ ac, (∀ w, (Instr.sliceAt 33 (.slice a n c) (some (.int .i64 (k : Int))) none none).run Try.prog w = .ok (.slice ac (n - k) (c - k)) w) ∧
    ∀ w (zs : List Int), Reads w 1 (.slice a n c) n (zs.map (Value.int .i64)) → Reads w 1 (.slice ac (n - k) (c - k)) (n - k) ((zs.drop k).map (Value.int .i64)) := by
  obtain ⟨i0, hi0, hz0, hz1, hz2⟩ := info_parts info_int
  refine ⟨if c = k then a else a.map (·.add (k * i0.size)), fun w => ?_, fun w zs h => ?_⟩
  · have hb1 : (Instr.sliceBound (.int .i64 (k : Int)) n .sliceB).run Try.prog w = .ok k w := by
      have := run_sliceBound (P := Try.prog) (w := w) .i64 (k : Int) n .sliceB (by omega) (by omega)
      simpa using this
    simp [Instr.sliceAt, Instr.slice, run_underlying Try.underlying33, Instr.sliceBounds, hb1, sizeOf, typeInfo, hi0]
  · obtain ⟨hl, a', c', hv, hnc, h⟩ := h
    simp only [Value.slice.injEq, true_and] at hv
    obtain ⟨rfl, rfl⟩ := hv
    have hzl : zs.length = n := by simpa using hl
    refine ⟨by simp; omega, _, c - k, rfl, by omega, ?_⟩
    by_cases hck : c = k
    · exact .inl (by rw [List.map_eq_nil_iff]; exact List.drop_of_length_le (by omega))
    · rw [if_neg hck]
      rcases h with h | ⟨b, o, rfl, h⟩
      · rw [List.map_eq_nil_iff] at h; exact .inl (by rw [h]; simp)
      · refine .inr ⟨b, o + k, by simp [addr_add, hz1], fun j u hu => ?_⟩
        rw [List.map_drop, List.getElem?_drop] at hu
        have := h (k + j) u hu
        rwa [← Nat.add_assoc] at this
end Go.Proofs.Ytcnoaflojojfkab.Seqs
