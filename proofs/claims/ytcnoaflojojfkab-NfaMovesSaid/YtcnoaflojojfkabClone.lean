/- slices.Clone: a slice of one's own, that holds the same. No condition. -/
import Derived.Test.YtcnoaflojojfkabQueryParts
namespace Go.Proofs.Ytcnoaflojojfkab.Qry
open Go.RowKit Go.Proofs.Ytcnoaflojojfkab.Pat
set_option linter.unusedVariables false
set_option linter.unusedSimpArgs false
set_option maxRecDepth 100000
theorem info_str : (Try.prog.info? 9).map (fun i => (i.zero, i.size, i.bytes)) = some (some (.string ⟨#[]⟩), 1, 16) := by kernel_rfl
theorem info_el : (Try.prog.info? 83).map (fun i => (i.zero, i.size, i.bytes)) = some (some (.agg #[.string ⟨#[]⟩, .slice none 0 0, .bool false, .int .i64 0, .int .i64 0, .slice none 0 0]), 6, 88) := by kernel_rfl
theorem info_nd : (Try.prog.info? 139).map (fun i => (i.zero, i.size, i.bytes)) = some (some (.agg #[.int .i64 0, .int .i64 0, .int .i64 0, .string ⟨#[]⟩, .bool false, .string ⟨#[]⟩, .string ⟨#[]⟩]), 7, 80) := by kernel_rfl
theorem reads_none {w : World} {size n c : Nat} {xs : List Value} (hs : 0 < size) (h : Reads w size (.slice none n c) n xs) : n = 0 ∧ xs = [] := by
  obtain ⟨hl, a', c', hv, _, h | ⟨b, o, h2, _⟩⟩ := h
  · subst h
    have h0 : n * size = 0 := by simpa using hl.symm
    rcases Nat.mul_eq_zero.1 h0 with h | h
    · exact ⟨h, rfl⟩
    · omega
  · simp only [Value.slice.injEq, true_and] at hv
    rw [← hv.1] at h2; cases h2

theorem eqn_strs (n c : Nat) (w : World) : (binOp BinOp.eql 80 (.slice none n c) (.slice none 0 0)).run Try.prog w = .ok (.bool true) w := by kernel_rfl
theorem eqs_strs (ad : Addr) (n c : Nat) (w : World) : (binOp BinOp.eql 80 (.slice (some ad) n c) (.slice none 0 0)).run Try.prog w = .ok (.bool false) w := by kernel_rfl
attribute [local go_sem] eqn_strs eqs_strs
theorem clone_strs (a : Option Addr) (n c : Nat) (xs : List Value) (w : World) (h : Reads w 1 (.slice a n c) n xs) (h1 : ∀ u ∈ xs, u.oneCell' = true) (hn : n ≤ 1000) :
    Calls Try.prog 101 #[.slice a n c] w fun e w' => ∃ (a' : Option Addr) (c' : Nat), e = .returned (.slice a' n c') ∧ View w' w.heap.size 9 1 (.slice a' n c') n xs ∧ Fr [] w w' := by
  obtain ⟨i0, hi0, hz0, hz1, hz2⟩ := info_parts info_str
  cases a with
  | none =>
    obtain ⟨rfl, rfl⟩ := reads_none (by omega) h
    clear h h1
    go_enter Try.func101, Try.ntmps101
    go_wp2_with fail
    go_ret
    exact ⟨none, 0, rfl, View.nil _ _ _ _, Fr.refl _ _⟩
  | some ad =>
    have H := Lib.hid h
    have H1 := Lib.hid h1
    clear h h1
    have VN : Hid (View (w.alloc (.cells #[] 9)) w.heap.size 9 1 (.slice (some ⟨w.heap.size, 0, none⟩) 0 0) 0 []) := Lib.hid (View.of_blk (Blk.new w [] _) (Nat.le_refl _) rfl (by decide))
    go_enter Try.func101, Try.ntmps101
    go_wp2_with (first | (at_builtin; refine wpList_append_view _ rfl _ _ 80 rfl w.heap.size 9 i0 (.string ⟨#[]⟩) 1 16 Try.underlying80 hi0 hz0 hz1 hz2 rfl _ _ 0 _ rfl VN.out _ n xs rfl (H.out.alloc _) H1.out (by unfold maxLen; omega) (by omega) (by simp) ?_; intro a' c' w' hv' hg' hat'; rw [Nat.zero_add, List.nil_append] at hv'; rw [Nat.zero_add]; have HV' := Lib.hid hv'; have HG' := Lib.hid hg'; clear hv' hg' hat'))
    go_ret
    exact ⟨a', c', rfl, HV'.out, ((Fr.refl _ _).alloc _).grown HG'.out (fun j hj => .inr (VN.out.lt hj).1)⟩

theorem eqn_elems (n c : Nat) (w : World) : (binOp BinOp.eql 65 (.slice none n c) (.slice none 0 0)).run Try.prog w = .ok (.bool true) w := by kernel_rfl
theorem eqs_elems (ad : Addr) (n c : Nat) (w : World) : (binOp BinOp.eql 65 (.slice (some ad) n c) (.slice none 0 0)).run Try.prog w = .ok (.bool false) w := by kernel_rfl
attribute [local go_sem] eqn_elems eqs_elems
theorem clone_elems (a : Option Addr) (n c : Nat) (xs : List Value) (w : World) (h : Reads w 6 (.slice a n c) n xs) (h1 : ∀ u ∈ xs, u.oneCell' = true) (hn : n ≤ 1000) :
    Calls Try.prog 100 #[.slice a n c] w fun e w' => ∃ (a' : Option Addr) (c' : Nat), e = .returned (.slice a' n c') ∧ View w' w.heap.size 83 6 (.slice a' n c') n xs ∧ Fr [] w w' := by
  obtain ⟨i0, hi0, hz0, hz1, hz2⟩ := info_parts info_el
  cases a with
  | none =>
    obtain ⟨rfl, rfl⟩ := reads_none (by omega) h
    clear h h1
    go_enter Try.func100, Try.ntmps100
    go_wp2_with fail
    go_ret
    exact ⟨none, 0, rfl, View.nil _ _ _ _, Fr.refl _ _⟩
  | some ad =>
    have H := Lib.hid h
    have H1 := Lib.hid h1
    clear h h1
    have VN : Hid (View (w.alloc (.cells #[] 83)) w.heap.size 83 6 (.slice (some ⟨w.heap.size, 0, none⟩) 0 0) 0 []) := Lib.hid (View.of_blk (Blk.new w [] _) (Nat.le_refl _) rfl (by decide))
    go_enter Try.func100, Try.ntmps100
    go_wp2_with (first | (at_builtin; refine wpList_append_view _ rfl _ _ 65 rfl w.heap.size 83 i0 (.agg #[.string ⟨#[]⟩, .slice none 0 0, .bool false, .int .i64 0, .int .i64 0, .slice none 0 0]) 6 88 Try.underlying65 hi0 hz0 hz1 hz2 rfl _ _ 0 _ rfl VN.out _ n xs rfl (H.out.alloc _) H1.out (by unfold maxLen; omega) (by omega) (by simp) ?_; intro a' c' w' hv' hg' hat'; rw [Nat.zero_add, List.nil_append] at hv'; rw [Nat.zero_add]; have HV' := Lib.hid hv'; have HG' := Lib.hid hg'; clear hv' hg' hat'))
    go_ret
    exact ⟨a', c', rfl, HV'.out, ((Fr.refl _ _).alloc _).grown HG'.out (fun j hj => .inr (VN.out.lt hj).1)⟩

theorem eqn_nodes (n c : Nat) (w : World) : (binOp BinOp.eql 81 (.slice none n c) (.slice none 0 0)).run Try.prog w = .ok (.bool true) w := by kernel_rfl
theorem eqs_nodes (ad : Addr) (n c : Nat) (w : World) : (binOp BinOp.eql 81 (.slice (some ad) n c) (.slice none 0 0)).run Try.prog w = .ok (.bool false) w := by kernel_rfl
attribute [local go_sem] eqn_nodes eqs_nodes
theorem clone_nodes (a : Option Addr) (n c : Nat) (xs : List Value) (w : World) (h : Reads w 7 (.slice a n c) n xs) (h1 : ∀ u ∈ xs, u.oneCell' = true) (hn : n ≤ 1000) :
    Calls Try.prog 102 #[.slice a n c] w fun e w' => ∃ (a' : Option Addr) (c' : Nat), e = .returned (.slice a' n c') ∧ View w' w.heap.size 139 7 (.slice a' n c') n xs ∧ Fr [] w w' := by
  obtain ⟨i0, hi0, hz0, hz1, hz2⟩ := info_parts info_nd
  cases a with
  | none =>
    obtain ⟨rfl, rfl⟩ := reads_none (by omega) h
    clear h h1
    go_enter Try.func102, Try.ntmps102
    go_wp2_with fail
    go_ret
    exact ⟨none, 0, rfl, View.nil _ _ _ _, Fr.refl _ _⟩
  | some ad =>
    have H := Lib.hid h
    have H1 := Lib.hid h1
    clear h h1
    have VN : Hid (View (w.alloc (.cells #[] 139)) w.heap.size 139 7 (.slice (some ⟨w.heap.size, 0, none⟩) 0 0) 0 []) := Lib.hid (View.of_blk (Blk.new w [] _) (Nat.le_refl _) rfl (by decide))
    go_enter Try.func102, Try.ntmps102
    go_wp2_with (first | (at_builtin; refine wpList_append_view _ rfl _ _ 81 rfl w.heap.size 139 i0 (.agg #[.int .i64 0, .int .i64 0, .int .i64 0, .string ⟨#[]⟩, .bool false, .string ⟨#[]⟩, .string ⟨#[]⟩]) 7 80 Try.underlying81 hi0 hz0 hz1 hz2 rfl _ _ 0 _ rfl VN.out _ n xs rfl (H.out.alloc _) H1.out (by unfold maxLen; omega) (by omega) (by simp) ?_; intro a' c' w' hv' hg' hat'; rw [Nat.zero_add, List.nil_append] at hv'; rw [Nat.zero_add]; have HV' := Lib.hid hv'; have HG' := Lib.hid hg'; clear hv' hg' hat'))
    go_ret
    exact ⟨a', c', rfl, HV'.out, ((Fr.refl _ _).alloc _).grown HG'.out (fun j hj => .inr (VN.out.lt hj).1)⟩
end Go.Proofs.Ytcnoaflojojfkab.Qry
