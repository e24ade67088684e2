/- TypingKinds as a function over numbers: it is true of all of them. No condition. -/
import Derived.Test.YtkfphlmbdppbfaaTyK
import Derived.Test.YtkfphlmbdppbfaaBits
namespace Go.Proofs.Ytkfphlmbdppbfaa.TyK
open Go Go.Proofs.Ytkfphlmbdppbfaa.Vm
set_option linter.unusedVariables false
set_option maxRecDepth 100000
abbrev types : List (ByteArray × List (ByteArray × Int)) := [((⟨#[65]⟩ : ByteArray), ([((⟨#[120]⟩ : ByteArray), (1 : Int)), ((⟨#[115]⟩ : ByteArray), (2 : Int))] : List (ByteArray × Int))), ((⟨#[66]⟩ : ByteArray), ([((⟨#[120]⟩ : ByteArray), (1 : Int)), ((⟨#[115]⟩ : ByteArray), (2 : Int))] : List (ByteArray × Int))), ((⟨#[67]⟩ : ByteArray), ([((⟨#[115]⟩ : ByteArray), (2 : Int)), ((⟨#[120]⟩ : ByteArray), (1 : Int)), ((⟨#[98]⟩ : ByteArray), (3 : Int))] : List (ByteArray × Int)))]
theorem F39_types (κ : Int → Option Res) (κ1 : Int × List (ByteArray × List (ByteArray × Int)) → Option Res) : F39 99 types κ κ1 = κ1 (0, types) := by kernel_rfl
theorem F39_types' (κ : Int → Option Res) (κ1 : Int × List (ByteArray × List (ByteArray × Int)) → Option Res) : F39 98 types κ κ1 = κ1 (0, types) := by kernel_rfl
theorem F40_types (κ : List (ByteArray × List (ByteArray × Int)) → Option Res) : F40 99 κ = κ types := by kernel_rfl
theorem F40_types' (κ : List (ByteArray × List (ByteArray × Int)) → Option Res) : F40 98 κ = κ types := by kernel_rfl
theorem F45_true (κ : Bool → Option Res) : F45 99 κ = κ true := by
  rw [F45, F45_B, F40_types', F39_types']
  kernel_rfl
theorem t13 (n : Int) : ∃ i : Int, (i = 0 ∨ i = 1 ∨ i = 2 ∨ i = 3 ∨ i = 4 ∨ i = 5 ∨ i = 6 ∨ i = 7 ∨ i = 8 ∨ i = 9 ∨ i = 10 ∨ i = 11 ∨ i = 12) ∧ Int.tmod (bits .and .i64 n (255 : Int)) (13 : Int) = i := by
  refine ⟨_, ?_, rfl⟩
  rw [and255, Int.tmod_eq_emod_of_nonneg (by omega)]
  omega
theorem t3 (n : Int) : ∃ i : Int, (i = 0 ∨ i = 1 ∨ i = 2) ∧ Int.tmod (bits .and .i64 n (255 : Int)) (3 : Int) = i := by
  refine ⟨_, ?_, rfl⟩
  rw [and255, Int.tmod_eq_emod_of_nonneg (by omega)]
  omega
theorem F7_true (a b c : Int) (κ : Bool → Option Res) : F7 100 a b c κ = κ true := by
  obtain ⟨i, hi, ei⟩ := t13 a
  obtain ⟨j, hj, ej⟩ := t3 b
  obtain ⟨l, hl, el⟩ := t3 c
  rw [F7, F7_B, F40_types, F39_types]
  simp only [F45_true, ei, ej, el]
  clear ei ej el
  rcases hi with rfl | rfl | rfl | rfl | rfl | rfl | rfl | rfl | rfl | rfl | rfl | rfl | rfl <;>
    rcases hj with rfl | rfl | rfl <;> rcases hl with rfl | rfl | rfl <;> kernel_rfl
end Go.Proofs.Ytkfphlmbdppbfaa.TyK
