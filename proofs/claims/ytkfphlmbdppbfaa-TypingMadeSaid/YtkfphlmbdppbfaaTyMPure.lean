/- TypingMade as a function over lists and numbers: it is true of all of them. No condition. -/
import Derived.Test.YtkfphlmbdppbfaaTyMKind
namespace Go.Proofs.Ytkfphlmbdppbfaa.TyM
open Go Go.Proofs.Ytkfphlmbdppbfaa.Vm
set_option linter.unusedVariables false
set_option linter.unusedSimpArgs false
set_option maxRecDepth 100000
theorem p2 : ((2 : Int) ^ min ((2 : Int)).toNat (IntKind.bits .i64)) = 4 := by kernel_rfl
theorem four {x : Int} : x % 4 = 0 ∨ x % 4 = 1 ∨ x % 4 = 2 ∨ x % 4 = 3 := by omega
theorem tys_is (x : Int) : isTys (([([(⟨#[65]⟩ : ByteArray)] : List ByteArray), ([(⟨#[65]⟩ : ByteArray), (⟨#[66]⟩ : ByteArray)] : List ByteArray), ([(⟨#[67]⟩ : ByteArray), (⟨#[65]⟩ : ByteArray)] : List ByteArray), ([(⟨#[66]⟩ : ByteArray), (⟨#[67]⟩ : ByteArray)] : List ByteArray)] : List (List ByteArray)).getD (x % 4).toNat ([] : List ByteArray)) := by
  rcases four (x := x) with h | h | h | h <;> rw [h]
  · exact .inl rfl
  · exact .inr (.inl rfl)
  · exact .inr (.inr (.inl rfl))
  · exact .inr (.inr (.inr rfl))
theorem tys_ok (x : Int) : (true && (decide ((0 : Int) ≤ x % 4) && decide (x % 4 < (([([(⟨#[65]⟩ : ByteArray)] : List ByteArray), ([(⟨#[65]⟩ : ByteArray), (⟨#[66]⟩ : ByteArray)] : List ByteArray), ([(⟨#[67]⟩ : ByteArray), (⟨#[65]⟩ : ByteArray)] : List ByteArray), ([(⟨#[66]⟩ : ByteArray), (⟨#[67]⟩ : ByteArray)] : List ByteArray)] : List (List ByteArray)).length : Int)))) = true := by
  rcases four (x := x) with h | h | h | h <;> rw [h] <;> rfl
theorem tys_ok2 (x : Int) : decide ((x % 4).toNat < ([([(⟨#[65]⟩ : ByteArray)] : List ByteArray), ([(⟨#[65]⟩ : ByteArray), (⟨#[66]⟩ : ByteArray)] : List ByteArray), ([(⟨#[67]⟩ : ByteArray), (⟨#[65]⟩ : ByteArray)] : List ByteArray), ([(⟨#[66]⟩ : ByteArray), (⟨#[67]⟩ : ByteArray)] : List ByteArray)] : List (List ByteArray)).length) = true := by
  rcases four (x := x) with h | h | h | h <;> rw [h] <;> rfl
theorem F44_eq (n : Int) (k : Nat) : ∃ sc, isScope sc ∧ ∀ κ, F44 (k + 1) n κ = κ sc := by
  refine ⟨_, ⟨_, _, _, tys_is n, tys_is (n / 4), tys_is (n / 16), rfl⟩, fun κ => ?_⟩
  rw [F44, F44_B]
  simp only [chk1_eq, chk2_eq, chk3_eq, chk4_eq, chk5_eq, chk6_eq, chk7_eq, chk8_eq, and3, p2, p4, fd 4 (by omega), fd 16 (by omega)]
  rw [if_pos (tys_ok n), if_pos (tys_ok2 n), if_pos (tys_ok (n / 4)), if_pos (tys_ok2 (n / 4)), if_pos (tys_ok (n / 16)), if_pos (tys_ok2 (n / 16))]
theorem F39_types (κ : Int → Option Res) (κ1 : Int × T5 → Option Res) : F39 99 types κ κ1 = κ1 (0, types) := by kernel_rfl
theorem F40_types (κ : T5 → Option Res) : F40 99 κ = κ types := by kernel_rfl
theorem F39_types' (κ : Int → Option Res) (κ1 : Int × T5 → Option Res) : F39 98 types κ κ1 = κ1 (0, types) := by kernel_rfl
theorem F40_types' (κ : T5 → Option Res) : F40 98 κ = κ types := by kernel_rfl
theorem F45_true (κ : Bool → Option Res) : F45 99 κ = κ true := by
  obtain ⟨sc, hs, e3⟩ := F44_eq 0 97
  have g : Gen (([nfld ⟨#[97]⟩ ⟨#[120]⟩] ++ [ncon (1, (3, (⟨#[]⟩, false)))]) ++ [nop 11]) 3 := Gen.cmp 11 1 (by omega) (.inl rfl) (Gen.fx _ (.inl rfl)) (Gen.num 3 (by omega))
  have k3 : ∀ κ, F43v1 98 sc [nfld ⟨#[97]⟩ ⟨#[120]⟩, ncon (1, (3, (⟨#[]⟩, false))), nop 11] types κ = κ (3, (0, types)) := fun κ => F43_gen g (by simp) hs 98 (by simp) κ
  rw [F45, F45_B, F40_types', F39_types']
  simp only [chk1_eq, chk2_eq, chk3_eq, chk4_eq, chk5_eq, chk6_eq, chk7_eq, chk8_eq, e3, k3]
  rfl
theorem F6_true (p : List Int) (n : Int) (κ : Bool → Option Res) : F6 100 p n κ = κ true := by
  obtain ⟨X, b, g1, l1, _, e1⟩ := F41_eq p 2 99 0 (by omega) (by omega) (by omega)
  obtain ⟨Y, c, g2, l2, _, e2⟩ := F42_eq p 3 99 0 (by omega) (by omega) (by omega)
  obtain ⟨sc, hs, e3⟩ := F44_eq n 98
  have e1' : ∀ κ, F41 99 p (0 : Int) (2 : Int) κ = κ (X, (b : Int)) := e1
  have e2' : ∀ κ, F42 99 p (0 : Int) (3 : Int) κ = κ (Y, (c : Int)) := e2
  have k1 : ∀ κ, F43v1 99 sc X types κ = κ (3, (0, types)) := fun κ => F43_gen g1 (by omega) hs 99 (by omega) κ
  have k2 : ∀ κ, F43v1 99 sc Y types κ = κ (1, (0, types)) := fun κ => F43_gen g2 (by omega) hs 99 (by omega) κ
  rw [F6, F6_B, F40_types]
  simp only [chk1_eq, chk2_eq, chk3_eq, chk4_eq, chk5_eq, chk6_eq, chk7_eq, chk8_eq]
  rw [F39_types]
  simp only [e1', e2', e3, k1, k2, F45_true]
  rfl
end Go.Proofs.Ytkfphlmbdppbfaa.TyM
