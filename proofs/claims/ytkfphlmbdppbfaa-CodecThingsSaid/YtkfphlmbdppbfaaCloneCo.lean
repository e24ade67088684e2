/- slices.Clone hands back a slice of one's own that holds the same. No condition. -/
import Derived.Test.YtkfphlmbdppbfaaVmLaw
namespace Go.Proofs.Ytkfphlmbdppbfaa.CloneCo
open Go Go.RowKit Go.Proofs.Ytkfphlmbdppbfaa.Vm
set_option linter.unusedVariables false
set_option linter.unusedSimpArgs false
set_option maxRecDepth 100000
theorem info_of {P : Program} {e : TypeId} {z : Option Value} {size bytes : Nat} (h : (P.info? e).map (fun i => (i.zero, i.size, i.bytes)) = some (z, size, bytes)) : ∃ i, P.info? e = some i ∧ i.zero = z ∧ i.size = size ∧ i.bytes = bytes := by
  cases hi : P.info? e with
  | none => rw [hi] at h; cases h
  | some i => rw [hi] at h; simp at h; exact ⟨i, rfl, h.1, h.2.1, h.2.2⟩
theorem reads_none {w : World} {size n c : Nat} {xs : List Value} (hs : 0 < size) (h : Reads w size (.slice none n c) n xs) : n = 0 ∧ xs = [] := by
  obtain ⟨hl, a', c', hv, _, h | ⟨b, o, h2, _⟩⟩ := h
  · subst h
    have h0 : n * size = 0 := by simpa using hl.symm
    rcases Nat.mul_eq_zero.1 h0 with h | h
    · exact ⟨h, rfl⟩
    · omega
  · simp only [Value.slice.injEq, true_and] at hv
    rw [← hv.1] at h2; cases h2

theorem info_80 : (Try.prog.info? 5).map (fun i => (i.zero, i.size, i.bytes)) = some (some (.int .u8 0), 1, 1) := by kernel_rfl
theorem eqn_80 (n c : Nat) (w : World) : (binOp BinOp.eql 24 (.slice none n c) (.slice none 0 0)).run Try.prog w = .ok (.bool true) w := by kernel_rfl
theorem eqs_80 (ad : Addr) (n c : Nat) (w : World) : (binOp BinOp.eql 24 (.slice (some ad) n c) (.slice none 0 0)).run Try.prog w = .ok (.bool false) w := by kernel_rfl
attribute [local go_sem] eqn_80 eqs_80
theorem clone_80 (a : Option Addr) (n c : Nat) (xs : List Value) (w : World) (h : Reads w 1 (.slice a n c) n xs) (h1 : ∀ u ∈ xs, u.oneCell' = true) (hn : n ≤ 1000000) :
    Calls Try.prog 80 #[.slice a n c] w fun e w' => ∃ (a' : Option Addr) (c' : Nat), e = .returned (.slice a' n c') ∧ View w' w.heap.size 5 1 (.slice a' n c') n xs ∧ Fr [] w w' := by
  obtain ⟨i0, hi0, hz0, hz1, hz2⟩ := info_parts info_80
  cases a with
  | none =>
    obtain ⟨rfl, rfl⟩ := reads_none (by omega) h
    clear h h1
    go_enter Try.func80, Try.ntmps80
    go_wp2_with fail
    go_ret
    exact ⟨none, 0, rfl, View.nil _ _ _ _, Fr.refl _ _⟩
  | some ad =>
    have H := Lib.hid h
    have H1 := Lib.hid h1
    clear h h1
    have VN : Hid (View (w.alloc (.cells #[] 5)) w.heap.size 5 1 (.slice (some ⟨w.heap.size, 0, none⟩) 0 0) 0 []) := Lib.hid (View.of_blk (Blk.new w [] _) (Nat.le_refl _) rfl (by decide))
    go_enter Try.func80, Try.ntmps80
    go_wp2_with (first | (at_builtin; refine wpList_append_view _ rfl _ _ 24 rfl w.heap.size 5 i0 (.int .u8 0) 1 1 Try.underlying24 hi0 hz0 hz1 hz2 rfl _ _ 0 _ rfl VN.out _ n xs rfl (H.out.alloc _) H1.out (by unfold maxLen; omega) (by omega) (by simp) ?_; intro a' c' w' hv' hg' hat'; rw [Nat.zero_add, List.nil_append] at hv'; rw [Nat.zero_add]; have HV' := Lib.hid hv'; have HG' := Lib.hid hg'; clear hv' hg' hat'))
    go_ret
    exact ⟨a', c', rfl, HV'.out, ((Fr.refl _ _).alloc _).grown HG'.out (fun j hj => .inr (VN.out.lt hj).1)⟩
theorem run_80 (vals : Array Value) (w : World) : (callFunc 80 vals).run Try.prog w = .ok (.enter 80 vals) w := callFunc_run Try.func80 (by kernel_rfl) rfl vals w

theorem ok {cfg : Cfg} (h : ∀ f, cfg.clone f = if Nat.beq f 80 = true then 1 else 0) : CloneOk Try.prog cfg := by
  intro f z hz
  rw [h] at hz
  split at hz
  · rename_i hf
    have hf := Nat.eq_of_beq_eq_true hf
    subst hf
    cases hz
    refine ⟨run_80, fun w v n xs hr h1 hn => ?_⟩
    obtain ⟨_, a, c, rfl, _⟩ := id hr
    refine Calls.mono (clone_80 a n c xs w hr h1 hn) fun e w' he => ?_
    obtain ⟨a', c', e1, e2, e3⟩ := he
    exact ⟨_, _, e1, e2, e3⟩
  cases hz
end Go.Proofs.Ytkfphlmbdppbfaa.CloneCo
