/- CheckPreds as a function over numbers: it is true of all of them. No condition. -/
import Derived.Test.YtfdgjpeanffknaaChP
import Derived.Test.YtfdgjpeanffknaaBits
namespace Go.Proofs.Ytfdgjpeanffknaa.ChP
open Go Go.Proofs.Ytfdgjpeanffknaa.Vm
set_option linter.unusedVariables false
set_option linter.unusedSimpArgs false
set_option maxRecDepth 100000
abbrev types : List (ByteArray × List (ByteArray × Int)) := [((⟨#[65]⟩ : ByteArray), ([((⟨#[120]⟩ : ByteArray), (1 : Int)), ((⟨#[115]⟩ : ByteArray), (2 : Int))] : List (ByteArray × Int))), ((⟨#[66]⟩ : ByteArray), ([((⟨#[120]⟩ : ByteArray), (1 : Int)), ((⟨#[115]⟩ : ByteArray), (2 : Int))] : List (ByteArray × Int))), ((⟨#[67]⟩ : ByteArray), ([((⟨#[115]⟩ : ByteArray), (2 : Int)), ((⟨#[120]⟩ : ByteArray), (1 : Int)), ((⟨#[98]⟩ : ByteArray), (3 : Int))] : List (ByteArray × Int)))]
theorem F6_types (κ : Int → Option Res) (κ1 : Int × List (ByteArray × List (ByteArray × Int)) → Option Res) : F6 99 types κ κ1 = κ1 (0, types) := by kernel_rfl
theorem F6_types' (κ : Int → Option Res) (κ1 : Int × List (ByteArray × List (ByteArray × Int)) → Option Res) : F6 98 types κ κ1 = κ1 (0, types) := by kernel_rfl
theorem F7_types (κ : List (ByteArray × List (ByteArray × Int)) → Option Res) : F7 99 κ = κ types := by kernel_rfl
theorem F7_types' (κ : List (ByteArray × List (ByteArray × Int)) → Option Res) : F7 98 κ = κ types := by kernel_rfl
theorem F8_true (κ : Bool → Option Res) : F8 99 κ = κ true := by
  rw [F8, F8_B, F7_types', F6_types']
  kernel_rfl
theorem p2 : ((2 : Int) ^ min ((2 : Int)).toNat (IntKind.bits .i64)) = 4 := by kernel_rfl
theorem fd {x : Int} (m : Int) (hm : 0 < m) : Int.fdiv x m = x / m := Int.fdiv_eq_ediv_of_nonneg _ (by omega)
theorem four (x : Int) : ∃ i : Int, (i = 0 ∨ i = 1 ∨ i = 2 ∨ i = 3) ∧ x % 4 = i := ⟨_, by omega, rfl⟩
theorem two (x : Int) : ∃ i : Int, (i = 0 ∨ i = 1) ∧ x % 2 = i := ⟨_, by omega, rfl⟩
theorem F5_true (a b : Int) (κ : Bool → Option Res) : F5 100 a b κ = κ true := by
  obtain ⟨i, hi, ei⟩ := four a
  obtain ⟨j, hj, ej⟩ := four (a / 4)
  obtain ⟨l, hl, el⟩ := two b
  obtain ⟨n, en⟩ : ∃ n : Bool, decide (bits .and .i64 b (2 : Int) > (0 : Int)) = n := ⟨_, rfl⟩
  rw [F5, F5_B, F7_types, F6_types]
  simp only [F8_true, and3, and1, p2, fd 4 (by omega), ei, ej, el, en]
  clear ei ej el en
  cases n <;> rcases hl with rfl | rfl <;> rcases hi with rfl | rfl | rfl | rfl <;> rcases hj with rfl | rfl | rfl | rfl <;> kernel_rfl
end Go.Proofs.Ytfdgjpeanffknaa.ChP
