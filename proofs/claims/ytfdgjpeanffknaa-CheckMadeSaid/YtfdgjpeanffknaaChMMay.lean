/- Predicates that the picks make may be: the loop of term.May goes over each of them. No condition. -/
import Derived.Test.YtfdgjpeanffknaaChMGen
namespace Go.Proofs.Ytfdgjpeanffknaa.ChM
open Go Go.Proofs.Ytfdgjpeanffknaa.Vm
set_option linter.unusedVariables false
set_option linter.unusedSimpArgs false
set_option maxRecDepth 100000
theorem lt_t {j n : Nat} (h : j < n) : decide ((j : Int) < (n : Int)) = true := by simpa using h
theorem nn (j : Nat) : decide ((0 : Int) ≤ (j : Int)) = true := by simp
theorem lt_f (n : Nat) : decide ((n : Int) < (n : Int)) = false := by simp
theorem rng {j n : Nat} (h : j < n) : (decide ((0 : Int) ≤ (j : Int)) && decide ((j : Int) < (n : Int))) = true := by simp; omega
abbrev zN : T7 := ((0 : Int), (((0 : Int), ((0 : Int), ((⟨#[]⟩ : ByteArray), false))), ((⟨#[]⟩ : ByteArray), (⟨#[]⟩ : ByteArray))))
def At (L : List T7) (i : Nat) (X : List T7) : Prop := i + X.length ≤ L.length ∧ ∀ j, j < X.length → L.getD (i + j) zN = X.getD j zN
theorem getD_left {α : Type} {a b : List α} {z : α} {j : Nat} (h : j < a.length) : (a ++ b).getD j z = a.getD j z := by
  rw [List.getD_eq_getElem?_getD, List.getD_eq_getElem?_getD, List.getElem?_append_left h]
theorem getD_right {α : Type} {a b : List α} {z : α} {j : Nat} : (a ++ b).getD (a.length + j) z = b.getD j z := by
  rw [List.getD_eq_getElem?_getD, List.getD_eq_getElem?_getD, List.getElem?_append_right (by omega), Nat.add_sub_cancel_left]
theorem At.left {L X Y : List T7} {i : Nat} (h : At L i (X ++ Y)) : At L i X := by
  obtain ⟨h1, h2⟩ := h
  rw [List.length_append] at h1
  exact ⟨by omega, fun j hj => by rw [h2 j (by rw [List.length_append]; omega), getD_left hj]⟩
theorem At.right {L X Y : List T7} {i : Nat} (h : At L i (X ++ Y)) : At L (i + X.length) Y := by
  obtain ⟨h1, h2⟩ := h
  rw [List.length_append] at h1
  exact ⟨by omega, fun j hj => by rw [Nat.add_assoc, h2 (X.length + j) (by rw [List.length_append]; omega), getD_right]⟩
theorem At.one {L : List T7} {i : Nat} {nd : T7} (h : At L i [nd]) : i < L.length ∧ L.getD i zN = nd := ⟨by have := h.1; simp at this; omega, h.2 0 (by simp)⟩
theorem At.self (X : List T7) : At X 0 X := ⟨by omega, fun j _ => by rw [Nat.zero_add]⟩
theorem eta2 {α β : Type} (x : α × β) : (x.1, x.2) = x := rfl
/-- a part may be, of so many others -/
def NdOk (nd : T7) (P : Nat) : Prop := ∀ k, 60 ≤ k → (∀ κ, F33 k nd.1 κ = κ (P : Int)) ∧ ∀ κ, F37 k nd κ = κ true
theorem may_step {nd : T7} {P : Nat} (hN : NdOk nd P) (k : Nat) (hk : 60 ≤ k) (κ : Bool → Option Res) (L : List T7) (i d : Nat) (hi : i < L.length) (hL : L.length ≤ 100) (hd : d ≤ 200) (hnd : L.getD i zN = nd) (hPd : P ≤ d) (K : Int × Int → Option Res) :
    L32_0 (k + 1) κ (d : Int) L (L.length : Int) (i : Int) K = L32_0 k κ ((d + 1 - P : Nat) : Int) L (L.length : Int) ((i + 1 : Nat) : Int) K := by
  rw [L32_0, L32_0_B]
  simp only [chk1_eq, chk2_eq, chk3_eq, chk4_eq, chk5_eq, chk6_eq, chk7_eq, chk8_eq, lt_t hi, rng hi, Int.toNat_natCast, if_true, Bool.true_and, hnd, (hN k hk).1, eta2, (hN k hk).2, Bool.not_true, nn, Bool.and_true, Bool.false_eq_true, if_false]
  rw [if_neg (by simp), if_neg (by simp; omega), wrn (n := 1 - (P : Int)) (by omega) (by omega), wrn (by omega) (by omega), wrn (by omega) (by omega)]
  congr 1
  · omega
def MayQ (X : List T7) : Prop := ∀ (k : Nat) (_ : 60 ≤ k) (κ : Bool → Option Res) (L : List T7) (i d : Nat) (_ : L.length ≤ 100) (_ : d + X.length ≤ 100) (_ : At L i X) (K : Int × Int → Option Res),
  L32_0 (k + X.length) κ (d : Int) L (L.length : Int) (i : Int) K = L32_0 k κ ((d + 1 : Nat) : Int) L (L.length : Int) ((i + X.length : Nat) : Int) K
theorem MayQ.one {nd : T7} (hN : NdOk nd 0) : MayQ [nd] := fun k hk κ L i d hL hd hA K =>
  may_step hN k hk κ L i d hA.one.1 hL (by simp at hd; omega) hA.one.2 (by omega) K
theorem MayQ.un {X : List T7} {nd : T7} (h : MayQ X) (hN : NdOk nd 1) : MayQ (X ++ [nd]) := fun k hk κ L i d hL hd hA K => by
  simp only [List.length_append, List.length_cons, List.length_nil] at hd ⊢
  rw [show k + (X.length + (0 + 1)) = (k + 1) + X.length by omega, h (k + 1) (by omega) κ L i d hL (by omega) hA.left K,
    may_step hN k hk κ L (i + X.length) (d + 1) hA.right.one.1 hL (by omega) hA.right.one.2 (by omega) K, show d + 1 + 1 - 1 = d + 1 by omega, show i + X.length + 1 = i + (X.length + (0 + 1)) by omega]
theorem MayQ.bin {X Y : List T7} {nd : T7} (h : MayQ X) (h' : MayQ Y) (hN : NdOk nd 2) : MayQ ((X ++ Y) ++ [nd]) := fun k hk κ L i d hL hd hA K => by
  have hA2 := hA.right
  simp only [List.length_append, List.length_cons, List.length_nil] at hd hA2 ⊢
  rw [show k + (X.length + Y.length + (0 + 1)) = ((k + 1) + Y.length) + X.length by omega, h ((k + 1) + Y.length) (by omega) κ L i d hL (by omega) hA.left.left K,
    h' (k + 1) (by omega) κ L (i + X.length) (d + 1) hL (by omega) hA.left.right K]
  have hs := may_step hN k hk κ L (i + (X.length + Y.length)) (d + 1 + 1) hA2.one.1 hL (by omega) hA2.one.2 (by omega) K
  rw [show i + X.length + Y.length = i + (X.length + Y.length) by omega, hs, show d + 1 + 1 + 1 - 2 = d + 1 by omega, show i + (X.length + Y.length) + 1 = i + (X.length + Y.length + (0 + 1)) by omega]
theorem nd_fld {v f : ByteArray} (hv : isVar v) (hf : f = ⟨#[120]⟩ ∨ f = ⟨#[115]⟩) : NdOk (nfld v f) 0 := by
  intro k hk
  obtain ⟨k, rfl⟩ : ∃ k', k = k' + 60 := ⟨k - 60, by omega⟩
  refine ⟨fun κ => by kernel_rfl, fun κ => ?_⟩
  rcases hv with rfl | rfl | rfl | rfl <;> rcases hf with rfl | rfl <;> kernel_rfl
theorem nd_num {n : Int} (h : n ≠ -9223372036854775808) : NdOk (ncon (1, (n, (⟨#[]⟩, false)))) 0 := by
  intro k hk
  obtain ⟨k, rfl⟩ : ∃ k', k = k' + 60 := ⟨k - 60, by omega⟩
  refine ⟨fun κ => by kernel_rfl, fun κ => ?_⟩
  rw [F37, F37_B]
  simp only [chk1_eq, chk2_eq, chk3_eq, chk4_eq, chk5_eq, chk6_eq, chk7_eq, chk8_eq]
  rw [if_pos (by rfl), F44, F44_B]
  simp only [chk1_eq, chk2_eq, chk3_eq, chk4_eq, chk5_eq, chk6_eq, chk7_eq, chk8_eq]
  rw [if_pos (by rfl), F46, F46_B]
  simp only [chk1_eq, chk2_eq, chk3_eq, chk4_eq, chk5_eq, chk6_eq, chk7_eq, chk8_eq, beq_self_eq_true, Bool.true_and, if_true]
  rw [if_pos (by rfl), if_pos (by simpa using h)]
theorem nd_tru (b : Bool) : NdOk (ncon (3, (0, (⟨#[]⟩, b)))) 0 := by
  intro k hk
  obtain ⟨k, rfl⟩ : ∃ k', k = k' + 60 := ⟨k - 60, by omega⟩
  cases b <;> exact ⟨fun κ => by kernel_rfl, fun κ => by kernel_rfl⟩
theorem nd_txt {s : ByteArray} (h : s = ⟨#[117]⟩ ∨ s = ⟨#[118]⟩ ∨ s = ⟨#[105, 116, 39, 115]⟩) : NdOk (ncon (2, (0, (s, false)))) 0 := by
  intro k hk
  obtain ⟨k, rfl⟩ : ∃ k', k = k' + 60 := ⟨k - 60, by omega⟩
  rcases h with rfl | rfl | rfl <;> exact ⟨fun κ => by kernel_rfl, fun κ => by kernel_rfl⟩
theorem nd_op1 {op : Int} (h : op = 3 ∨ op = 13) : NdOk (nop op) 1 := by
  intro k hk
  obtain ⟨k, rfl⟩ : ∃ k', k = k' + 60 := ⟨k - 60, by omega⟩
  rcases h with rfl | rfl <;> exact ⟨fun κ => by kernel_rfl, fun κ => by kernel_rfl⟩
theorem nd_op2 {op : Int} (h : op = 4 ∨ op = 5 ∨ op = 6 ∨ op = 7 ∨ op = 8 ∨ op = 9 ∨ op = 10 ∨ op = 11 ∨ op = 12 ∨ op = 14 ∨ op = 15) : NdOk (nop op) 2 := by
  intro k hk
  obtain ⟨k, rfl⟩ : ∃ k', k = k' + 60 := ⟨k - 60, by omega⟩
  rcases h with rfl | rfl | rfl | rfl | rfl | rfl | rfl | rfl | rfl | rfl | rfl <;> exact ⟨fun κ => by kernel_rfl, fun κ => by kernel_rfl⟩
theorem may_gen {V : ByteArray → Prop} (hV : ∀ v, V v → isVar v) {X : List T7} {c : Int} (h : Gen V X c) : MayQ X := by
  induction h with
  | num n h => exact .one (nd_num h)
  | tru b => exact .one (nd_tru b)
  | txt s h => exact .one (nd_txt h)
  | fx v h => exact .one (nd_fld (hV _ h) (.inl rfl))
  | fs v h => exact .one (nd_fld (hV _ h) (.inr rfl))
  | neg h ih => exact ih.un (nd_op1 (.inl rfl))
  | arith op ho h h' ih ih' => exact ih.bin ih' (nd_op2 (by omega))
  | cmp op c ho hc h h' ih ih' => exact ih.bin ih' (nd_op2 (by omega))
  | not h ih => exact ih.un (nd_op1 (.inr rfl))
  | log op ho h h' ih ih' => exact ih.bin ih' (nd_op2 (by omega))
/-- what the picks make may be -/
theorem F32_gen {V : ByteArray → Prop} (hV : ∀ v, V v → isVar v) {X : List T7} {c : Int} (h : Gen V X c) (hX : X.length ≤ 64) (k : Nat) (hk : 62 + X.length ≤ k) (κ : Bool → Option Res) : F32 k X κ = κ true := by
  obtain ⟨k, rfl⟩ : ∃ k', k = (k' + 1 + X.length) + 1 := ⟨k - X.length - 2, by omega⟩
  rw [F32, F32_B]
  simp only [chk1_eq, chk2_eq, chk3_eq, chk4_eq, chk5_eq, chk6_eq, chk7_eq, chk8_eq]
  rw [if_neg (by simp; omega), show (0 : Int) = ((0 : Nat) : Int) from rfl, may_gen hV h (k + 1) (by omega) κ X 0 0 (by omega) (by omega) (At.self X), Nat.zero_add, L32_0, L32_0_B]
  simp only [chk1_eq, chk2_eq, chk3_eq, chk4_eq, chk5_eq, chk6_eq, chk7_eq, chk8_eq, Nat.zero_add, lt_f, Bool.false_eq_true, if_false]
  rfl
end Go.Proofs.Ytfdgjpeanffknaa.ChM
