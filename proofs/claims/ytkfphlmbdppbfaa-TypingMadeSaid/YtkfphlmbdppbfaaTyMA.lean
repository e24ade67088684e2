/- The functions that 'lamplighter/lamplighterlaw13.TypingMade' reaches, over lists and numbers, and that the machine of values comes to them (printed by wip/vm/gen.py). No condition. -/
import Derived.Test.YtkfphlmbdppbfaaVmShape
import Derived.Test.YtkfphlmbdppbfaaProg
import Derived.KernelRfl
namespace Go.Proofs.Ytkfphlmbdppbfaa.TyM
open Go Go.Proofs.Ytkfphlmbdppbfaa.Vm
set_option linter.unusedVariables false
set_option maxRecDepth 100000
def tab : List Row := [
  ⟨2, false, [.int .i64], (.int .i64), 8, .flat⟩,
  ⟨3, false, [.int .i64], (.int .i64), 8, .flat⟩,
  ⟨4, false, [.bool], .bool, 1, .flat⟩,
  ⟨5, false, [.int .u8], (.int .u8), 1, .flat⟩,
  ⟨9, false, [.str], .str, 16, .flat⟩,
  ⟨42, false, [.int .i64], (.int .i64), 8, .flat⟩,
  ⟨69, false, [.list (.int .i64)], (.list (.int .i64)), 24, .slice 3⟩,
  ⟨70, false, [.ptr], .unit, 8, .flat⟩,
  ⟨73, false, [.list (.pair .str (.list (.pair .str (.int .i64))))], (.list (.pair .str (.list (.pair .str (.int .i64))))), 24, .slice 94⟩,
  ⟨75, false, [.list (.pair (.int .i64) (.pair (.pair (.int .i64) (.pair (.int .i64) (.pair .str .bool))) (.pair .str .str)))], (.list (.pair (.int .i64) (.pair (.pair (.int .i64) (.pair (.int .i64) (.pair .str .bool))) (.pair .str .str)))), 24, .slice 87⟩,
  ⟨80, false, [.list (.pair .str (.list .str))], (.list (.pair .str (.list .str))), 24, .slice 97⟩,
  ⟨84, true, [.int .i64, .int .i64, .str, .bool], (.pair (.int .i64) (.pair (.int .i64) (.pair .str .bool))), 40, .struct [(0, 3), (1, 2), (2, 9), (3, 4)]⟩,
  ⟨87, true, [.int .i64, .int .i64, .int .i64, .str, .bool, .str, .str], (.pair (.int .i64) (.pair (.pair (.int .i64) (.pair (.int .i64) (.pair .str .bool))) (.pair .str .str))), 80, .struct [(0, 3), (1, 84), (5, 9), (6, 9)]⟩,
  ⟨91, true, [.str, .int .i64], (.pair .str (.int .i64)), 24, .struct [(0, 9), (1, 3)]⟩,
  ⟨92, false, [.list (.pair .str (.int .i64))], (.list (.pair .str (.int .i64))), 24, .slice 91⟩,
  ⟨94, true, [.str, .list (.pair .str (.int .i64))], (.pair .str (.list (.pair .str (.int .i64)))), 40, .struct [(0, 9), (1, 92)]⟩,
  ⟨95, false, [.list .str], (.list .str), 24, .slice 9⟩,
  ⟨97, true, [.str, .list .str], (.pair .str (.list .str)), 40, .struct [(0, 9), (1, 95)]⟩,
  ⟨98, false, [.fn], .unit, 8, .flat⟩,
  ⟨160, true, [.list (.pair .str (.list (.pair .str (.int .i64))))], (.list (.pair .str (.list (.pair .str (.int .i64))))), 24, .struct [(0, 73)]⟩,
  ⟨169, false, [.list (.list .str)], (.list (.list .str)), 24, .slice 95⟩,
  ⟨220, false, [.fn], .unit, 8, .flat⟩,
  ⟨223, false, [.fn], .unit, 8, .flat⟩]
def pathEq' : List Bool → List Bool → Bool
  | [], [] => true
  | true :: p, true :: q => pathEq' p q
  | false :: p, false :: q => pathEq' p q
  | _, _ => false
def cfg : Cfg := ⟨tab, fun f => 2, fun f => if Nat.beq f 94 = true then 2 else 0, fun f => if Nat.beq f 6 = true then [4, 5, 6, 7, 8, 9, 10, 11, 12, 13, 14, 15, 20, 25, 30, 38] else if Nat.beq f 39 = true then [2, 3, 4, 8, 30, 42, 54] else if Nat.beq f 40 = true then [0] else if Nat.beq f 41 = true then [1, 6, 7, 8, 9, 10, 11, 12, 13, 14, 15, 16, 17, 18, 30, 41, 42, 67, 68, 76, 84, 92, 102, 103, 107, 115, 119, 120, 128, 136, 146] else if Nat.beq f 42 = true then [1, 6, 7, 8, 9, 10, 11, 12, 41, 50, 51, 62, 66, 67, 75, 85] else if Nat.beq f 43 = true then [6, 7, 8, 11, 12, 13, 37, 42, 44, 53, 66] else if Nat.beq f 44 = true then [2, 3] else if Nat.beq f 45 = true then [0, 1, 2, 3, 4, 5, 6, 16] else if Nat.beq f 91 = true then [2, 3, 4, 5] else if Nat.beq f 92 = true then [2, 3] else if Nat.beq f 93 = true then [5] else if Nat.beq f 95 = true then [2, 3, 6] else if Nat.beq f 96 = true then [2, 3, 10, 17] else if Nat.beq f 97 = true then [6, 7, 8, 9, 11, 12, 13, 29, 52] else if Nat.beq f 98 = true then [4, 5, 8, 15, 29] else if Nat.beq f 133 = true then [2] else if Nat.beq f 134 = true then [4] else if Nat.beq f 135 = true then [3] else if Nat.beq f 136 = true then [2, 5, 26] else if Nat.beq f 137 = true then [4, 5, 17] else if Nat.beq f 138 = true then [3] else if Nat.beq f 139 = true then [6, 7, 9, 10, 12, 30, 32] else if Nat.beq f 140 = true then [3] else if Nat.beq f 141 = true then [4] else if Nat.beq f 142 = true then [3] else if Nat.beq f 166 = true then [2, 5, 12, 25] else if Nat.beq f 167 = true then [4, 5, 17] else if Nat.beq f 168 = true then [4, 5, 17] else [], fun f => if Nat.beq f 6 = true then [4, 5, 7, 9, 11, 12, 13, 14] else if Nat.beq f 39 = true then [2, 3, 4, 8] else if Nat.beq f 40 = true then [0] else if Nat.beq f 41 = true then [1, 6, 7, 8, 9, 10, 11, 12, 13, 14, 15, 16, 17, 18, 30, 42, 68, 103] else if Nat.beq f 42 = true then [1, 6, 7, 8, 9, 10, 11, 12] else if Nat.beq f 43 = true then [6, 7, 8, 11, 12, 13, 37, 42] else if Nat.beq f 44 = true then [2, 3] else if Nat.beq f 45 = true then [0, 1, 3, 4, 5] else if Nat.beq f 91 = true then [2, 3, 4, 5] else if Nat.beq f 92 = true then [2, 3] else if Nat.beq f 93 = true then [5] else if Nat.beq f 95 = true then [2, 3, 6] else if Nat.beq f 96 = true then [2, 3, 10, 17] else if Nat.beq f 97 = true then [6, 7, 8, 9, 11, 12, 13] else if Nat.beq f 98 = true then [4, 5, 8, 15, 29] else if Nat.beq f 133 = true then [2] else if Nat.beq f 134 = true then [4] else if Nat.beq f 135 = true then [3] else if Nat.beq f 136 = true then [2, 5, 26] else if Nat.beq f 137 = true then [4, 5] else if Nat.beq f 138 = true then [3] else if Nat.beq f 139 = true then [6, 7, 10] else if Nat.beq f 140 = true then [3] else if Nat.beq f 141 = true then [4] else if Nat.beq f 142 = true then [3] else if Nat.beq f 166 = true then [2, 5, 12, 25] else if Nat.beq f 167 = true then [4, 5] else if Nat.beq f 168 = true then [4, 5] else [], fun f p => if Nat.beq f 91 = true then (if pathEq' p [true, true, false, true, false] = true then [1, 2, 3, 4, 5, 6, 7, 8, 9, 10, 11, 12, 13, 14, 15, 16, 17, 18, 19, 22, 23, 24, 25, 26, 27, 28, 29, 30, 31, 32, 33, 34, 35, 36, 37, 38, 39, 40, 41, 42, 43, 44, 45, 46, 47, 48, 49, 50, 51, 52, 53, 54, 55, 56, 57] else if pathEq' p [true, true, true, false, true, false] = true then [1, 2, 3, 4, 5, 6, 7, 8, 9, 10, 11, 12, 13, 14, 15, 16, 17, 18, 19, 20, 21, 22, 23, 24, 25, 26, 27, 28, 29, 30, 31, 32, 33, 34, 35, 36, 37, 38, 39, 40, 41, 44, 45, 46, 47, 48, 49, 50, 51, 52, 53, 54, 55, 56, 57] else []) else if Nat.beq f 167 = true then (if pathEq' p [true, false, true, false] = true then [2, 3, 4, 5, 6, 9, 10, 11, 12, 13, 14, 15, 16, 17, 18] else []) else if Nat.beq f 92 = true then (if pathEq' p [true, true, false, true, false] = true then [1, 2, 3, 4, 5, 6, 7, 11, 12, 13, 14, 15, 16, 17, 18, 19, 20, 21, 22, 23, 24, 25, 26, 27, 28, 29, 30, 31, 32, 33, 34] else []) else if Nat.beq f 93 = true then (if pathEq' p [true, true, false, true, false] = true then [0, 2, 3, 5, 6, 7, 8, 9, 10, 11, 12, 13, 17, 18, 19, 20, 21, 22, 23, 24, 25, 26, 27, 28, 29, 30, 31] else []) else if Nat.beq f 39 = true then (if pathEq' p [true, true, true, false, true, false] = true then [0, 1, 2, 3, 5, 6, 7, 8, 9, 10, 11, 12, 17, 18, 19, 20, 21, 22, 23, 24, 25, 26, 27, 28, 29, 30, 31, 32, 33, 34, 35, 36, 37, 38, 39, 40, 41, 42, 43, 44, 45, 46, 47, 48, 49, 50, 51, 52, 53, 54] else []) else if Nat.beq f 95 = true then (if pathEq' p [true, true, true, false, true, false] = true then [0, 1, 2, 4, 5, 6, 7, 8, 9, 13, 14, 15, 16, 17, 18, 19, 20, 21, 22, 23, 24, 25, 26, 27, 28, 29, 30, 31, 32, 33, 34, 35, 36, 37] else []) else if Nat.beq f 137 = true then (if pathEq' p [true, false, true, false] = true then [2, 3, 4, 5, 6, 9, 10, 11, 12, 13, 14, 15, 16, 17, 18] else []) else if Nat.beq f 139 = true then (if pathEq' p [true, true, false, true, false] = true then [0, 1, 3, 4, 5, 6, 7, 8, 9, 10, 11, 12, 13, 14, 15, 16, 17, 18, 22, 23, 24, 25, 26, 27, 28, 29, 30, 31, 32, 33] else []) else if Nat.beq f 97 = true then (if pathEq' p [true, true, true, true, false, true, false] = true then [1, 2, 3, 4, 6, 7, 8, 10, 11, 12, 13, 14, 15, 16, 17, 18, 19, 20, 21, 22, 26, 27, 28, 29, 30, 31, 32, 33, 34, 35, 36, 37, 38, 39, 40, 41, 42, 43, 44, 45, 46, 47, 48, 49, 50, 51, 52] else []) else if Nat.beq f 168 = true then (if pathEq' p [true, false, true, false] = true then [2, 3, 4, 5, 6, 9, 10, 11, 12, 13, 14, 15, 16, 17, 18] else []) else if Nat.beq f 43 = true then (if pathEq' p [true, true, true, false, true, false] = true then [2, 3, 4, 5, 6, 7, 9, 10, 11, 12, 13, 14, 15, 16, 20, 21, 22, 23, 24, 25, 26, 27, 28, 29, 30, 31, 32, 33, 34, 35, 36, 37, 38, 39, 40, 41, 42, 43, 44, 45, 46, 47, 48, 49, 50, 51, 52, 53, 54, 55, 56, 57, 58, 59, 60, 61, 62, 63, 64, 65, 66] else []) else [], fun f p => if Nat.beq f 43 = true then (if pathEq' p [true, true, true, false, true, false] = true then [8] else []) else [], fun f p => []⟩
abbrev T0 : Type := (Int × (ByteArray × Bool))
abbrev T1 : Type := (ByteArray × (List ByteArray))
abbrev T2 : Type := (Int × T0)
abbrev T3 : Type := (List T1)
abbrev T4 : Type := (ByteArray × (List (ByteArray × Int)))
abbrev T5 : Type := (List T4)
abbrev T6 : Type := (T2 × (ByteArray × ByteArray))
abbrev T7 : Type := (Int × T6)
abbrev T8 : Type := (List T7)
abbrev tF40 : Type := (T5 → Option Res) → Option Res
abbrev tF133 : Type := Int → (Bool → Option Res) → Option Res
abbrev tF91 : Type := ByteArray → (Bool → Option Res) → Option Res
abbrev tL91_0 : Type := ByteArray → Int → Int → (Int → Option Res) → Option Res
abbrev tL91_1 : Type := ByteArray → Int → Int → (Int → Option Res) → Option Res
abbrev tF135 : Type := (ByteArray × Int) → ByteArray → Int → (Bool × ByteArray × Int → Option Res) → Option Res
abbrev tF167 : Type := (List (ByteArray × Int)) → ByteArray → Int → (Int × ByteArray × Int → Option Res) → Option Res
abbrev tL167_0 : Type := (List (ByteArray × Int)) → Int → Int → ByteArray → Int → (Int × ByteArray × Int → Option Res) → Option Res
abbrev tF134 : Type := (List (ByteArray × Int)) → ByteArray → Int → (Bool × ByteArray × Int → Option Res) → Option Res
abbrev tF92 : Type := (List (ByteArray × Int)) → (Bool → Option Res) → Option Res
abbrev tL92_0 : Type := (List (ByteArray × Int)) → (List (ByteArray × Int)) → Int → Int → (Int → Option Res) → Option Res
abbrev tF93 : Type := ByteArray → T5 → (T4 × Bool × T5 → Option Res) → Option Res
abbrev tL93_0 : Type := ByteArray → Int → Int → ByteArray → (List (ByteArray × Int)) → T5 → (Int → Option Res) → Option Res
abbrev tF39 : Type := T5 → (Int → Option Res) → (Int × T5 → Option Res) → Option Res
abbrev tL39_0 : Type := T5 → Int → Int → T5 → (Int × T5 → Option Res) → Option Res
abbrev tF42 : Type := (List Int) → Int → Int → (T8 × Int → Option Res) → Option Res
abbrev tF41 : Type := (List Int) → Int → Int → (T8 × Int → Option Res) → Option Res
abbrev tF44 : Type := Int → (T3 → Option Res) → Option Res
abbrev tF96 : Type := Int → (Int → Option Res) → Option Res
abbrev tF182 : Type := Int → (T2 → Option Res) → Option Res
abbrev tF183 : Type := ByteArray → (T2 → Option Res) → Option Res
abbrev tF184 : Type := Bool → (T2 → Option Res) → Option Res
abbrev tF166 : Type := T2 → (Bool → Option Res) → Option Res
abbrev tF136 : Type := T7 → (Bool → Option Res) → Option Res
abbrev tF95 : Type := T8 → (Bool → Option Res) → Option Res
abbrev tL95_0 : Type := Int → T8 → Int → Int → (Int × Int → Option Res) → Option Res
abbrev tF138 : Type := T1 → Int → Int → Int → ByteArray → Bool → ByteArray → ByteArray → (Bool × Int × Int × Int × ByteArray × Bool × ByteArray × ByteArray → Option Res) → Option Res
abbrev tF137 : Type := T3 → Int → Int → Int → ByteArray → Bool → ByteArray → ByteArray → (Int × Int × Int × Int × ByteArray × Bool × ByteArray × ByteArray → Option Res) → Option Res
abbrev tL137_0 : Type := T3 → Int → Int → Int → Int → Int → ByteArray → Bool → ByteArray → ByteArray → (Int × Int × Int × Int × ByteArray × Bool × ByteArray × ByteArray → Option Res) → Option Res
abbrev tF93v1 : Type := ByteArray → (T4 × Bool → Option Res) → Option Res
abbrev tF139 : Type := ByteArray → ByteArray → (Int × Int → Option Res) → Option Res
abbrev tL139_0 : Type := ByteArray → (List (ByteArray × Int)) → Int → Int → (Int → Option Res) → Option Res
abbrev tF97 : Type := T3 → T7 → (Int × Int → Option Res) → Option Res
abbrev tL97_0 : Type := Int → (List ByteArray) → Int → Int → Int → Int → Int → ByteArray → Bool → ByteArray → ByteArray → (Int × Int → Option Res) → Option Res
abbrev tF142 : Type := Int → Int → (Bool × Int → Option Res) → Option Res
abbrev tF168 : Type := (List Int) → Int → (Int × Int → Option Res) → Option Res
abbrev tL168_0 : Type := (List Int) → Int → Int → Int → (Int × Int → Option Res) → Option Res
abbrev tF141 : Type := (List Int) → Int → (Bool × Int → Option Res) → Option Res
abbrev tF140 : Type := Int → (List Int) → (Bool × (List Int) → Option Res) → Option Res
abbrev tF98 : Type := Int → (List Int) → (Int → Option Res) → Option Res
abbrev tF43 : Type := T3 → T8 → (Int × Int → Option Res) → Option Res
abbrev tL43_0 : Type := T3 → (List Int) → T8 → Int → Int → ((List Int) × Int → Option Res) → Option Res
abbrev tF139v1 : Type := ByteArray → ByteArray → T5 → (Int × Int × T5 → Option Res) → Option Res
abbrev tL139v1_0 : Type := ByteArray → (List (ByteArray × Int)) → Int → Int → T5 → (Int → Option Res) → Option Res
abbrev tF97v1 : Type := T3 → T7 → T5 → (Int × Int × T5 → Option Res) → Option Res
abbrev tL97v1_0 : Type := Int → (List ByteArray) → Int → Int → Int → Int → Int → ByteArray → Bool → ByteArray → ByteArray → T5 → (Int × Int × T5 → Option Res) → Option Res
abbrev tF43v1 : Type := T3 → T8 → T5 → (Int × Int × T5 → Option Res) → Option Res
abbrev tL43v1_0 : Type := T3 → (List Int) → T8 → Int → Int → T5 → ((List Int) × Int × T5 → Option Res) → Option Res
abbrev tF45 : Type := (Bool → Option Res) → Option Res
def F40_B   (κ : T5 → Option Res) : Option Res :=
  chk8 (chk8 (chk8 (chk8 (chk8 (chk1 (κ ([((⟨#[65]⟩ : ByteArray), ([((⟨#[120]⟩ : ByteArray), (1 : Int)), ((⟨#[115]⟩ : ByteArray), (2 : Int))] : List (ByteArray × Int))), ((⟨#[66]⟩ : ByteArray), ([((⟨#[120]⟩ : ByteArray), (1 : Int)), ((⟨#[115]⟩ : ByteArray), (2 : Int))] : List (ByteArray × Int))), ((⟨#[67]⟩ : ByteArray), ([((⟨#[115]⟩ : ByteArray), (2 : Int)), ((⟨#[120]⟩ : ByteArray), (1 : Int)), ((⟨#[98]⟩ : ByteArray), (3 : Int))] : List (ByteArray × Int)))] : List T4)))))))
/-- lamplighter/lamplighterref03.Types -/
def F40 : Nat →  (T5 → Option Res) → Option Res
  | 0, _ => none
  | k + 1, κ => F40_B   κ
def F40_s : List SC := []
def F40_b : List (List SC) := []
def F40_m (g : (T5 → Option Res) → Option Res) (cf : CallF) : CallF := fun f args lent κ => match Nat.beq f 40 with
  | true => match okC F40_s args && okB F40_b lent with
    | true => g  (fun x => κ ((.list (.pair .str (.list (.pair .str (.int .i64)))) x (.own false false), []) : Res))
    | false => cf f args lent κ
  | false => cf f args lent κ
theorem F40_d (k : Nat) (h : ∀  (κ : Res → Option Res), (ev Try.prog cfg k).call 40 [] [] κ = F40 k  (fun x => κ ((.list (.pair .str (.list (.pair .str (.int .i64)))) x (.own false false), []) : Res))) : F40_m (F40 k) (ev Try.prog cfg k).call = (ev Try.prog cfg k).call := by
  funext f args lent κ
  unfold F40_m
  split
  · rename_i hp
    split
    · rename_i hs
      rw [Bool.and_eq_true] at hs
      have e : mkC F40_s 0 args = [] := by kernel_rfl
      have e' : mkB F40_b 0 lent = [] := by kernel_rfl
      obtain rfl := Nat.eq_of_beq_eq_true hp
      exact (h  κ).symm.trans (cong2 (fun a l => (ev Try.prog cfg k).call 40 a l κ) (e.symm.trans (okC_eq hs.1).symm) (e'.symm.trans (okB_eq hs.2).symm))
    · rfl
  · rfl
theorem F40_k  (cf : CallF) (lf : LoopF)  (κ : Res → Option Res) : evFn Try.prog cfg cf lf 40 [] [] κ = F40_B   (fun x => κ ((.list (.pair .str (.list (.pair .str (.int .i64)))) x (.own false false), []) : Res)) := by
  kernel_rfl
theorem F40_ev : ∀ (k : Nat)  (κ : Res → Option Res), (ev Try.prog cfg k).call 40 [] [] κ = F40 k  (fun x => κ ((.list (.pair .str (.list (.pair .str (.int .i64)))) x (.own false false), []) : Res)) := by
  intro k
  induction k with
  | zero => intros; rfl
  | succ k ih =>
    intro  κ
    refine (ev_call' Try.prog cfg k 40 0 _ _ κ (by rfl)).trans ?_
    skip
    exact F40_k  _ _  κ
def F133_B  (a0 : Int) (κ : Bool → Option Res) : Option Res :=
  chk1 (if decide (a0 ≥ (97 : Int)) = true then
    (chk1 (if decide (a0 ≤ (122 : Int)) = true then
      (chk1 (κ true))
     else
      (chk1 (if decide (a0 ≥ (65 : Int)) = true then
        (chk1 (if decide (a0 ≤ (90 : Int)) = true then
          (κ true)
         else
          (chk1 (κ (a0 == (95 : Int))))))
       else
        (if false = true then
         (none)
        else
         (chk1 (κ (a0 == (95 : Int)))))))))
   else
    (if false = true then
     (none)
    else
     (chk1 (if decide (a0 ≥ (65 : Int)) = true then
       (chk1 (if decide (a0 ≤ (90 : Int)) = true then
         (κ true)
        else
         (chk1 (κ (a0 == (95 : Int))))))
      else
       (if false = true then
        (none)
       else
        (chk1 (κ (a0 == (95 : Int)))))))))
/-- lamplighter/schema.letter -/
def F133 : Nat → Int → (Bool → Option Res) → Option Res
  | 0, _, _ => none
  | k + 1, a0, κ => F133_B  a0 κ
def F133_s : List SC := [.one (.int .u8)]
def F133_b : List (List SC) := []
def F133_m (g : Int → (Bool → Option Res) → Option Res) (cf : CallF) : CallF := fun f args lent κ => match Nat.beq f 133 with
  | true => match okC F133_s args && okB F133_b lent with
    | true => g (intOf (nth args 0)) (fun x => κ ((.bool x, []) : Res))
    | false => cf f args lent κ
  | false => cf f args lent κ
theorem F133_d (k : Nat) (h : ∀ (a0 : Int) (κ : Res → Option Res), (ev Try.prog cfg k).call 133 [.int .u8 a0] [] κ = F133 k a0 (fun x => κ ((.bool x, []) : Res))) : F133_m (F133 k) (ev Try.prog cfg k).call = (ev Try.prog cfg k).call := by
  funext f args lent κ
  unfold F133_m
  split
  · rename_i hp
    split
    · rename_i hs
      rw [Bool.and_eq_true] at hs
      have e : mkC F133_s 0 args = [.int .u8 (intOf (nth args 0))] := by kernel_rfl
      have e' : mkB F133_b 0 lent = [] := by kernel_rfl
      obtain rfl := Nat.eq_of_beq_eq_true hp
      exact (h (intOf (nth args 0)) κ).symm.trans (cong2 (fun a l => (ev Try.prog cfg k).call 133 a l κ) (e.symm.trans (okC_eq hs.1).symm) (e'.symm.trans (okB_eq hs.2).symm))
    · rfl
  · rfl
theorem F133_k  (cf : CallF) (lf : LoopF) (a0 : Int) (κ : Res → Option Res) : evFn Try.prog cfg cf lf 133 [.int .u8 a0] [] κ = F133_B  a0 (fun x => κ ((.bool x, []) : Res)) := by
  kernel_rfl
theorem F133_ev : ∀ (k : Nat) (a0 : Int) (κ : Res → Option Res), (ev Try.prog cfg k).call 133 [.int .u8 a0] [] κ = F133 k a0 (fun x => κ ((.bool x, []) : Res)) := by
  intro k
  induction k with
  | zero => intros; rfl
  | succ k ih =>
    intro a0 κ
    refine (ev_call' Try.prog cfg k 133 0 _ _ κ (by rfl)).trans ?_
    skip
    exact F133_k  _ _ a0 κ
def L91_1_B (gL91_1 : tL91_1) (κ : Bool → Option Res) (p0 : ByteArray) (p1 : Int) (p2 : Int) (K : Int → Option Res) : Option Res :=
  chk1 (if decide (p2 < p1) = true then
    (chk3 (if ((true && decide ((0 : Int) ≤ p2)) && (decide (p2 ≤ (IntKind.wrap .i64 ((IntKind.wrap .i64 (p2 + (p0.size : Int))) + (2 : Int)))) && decide ((IntKind.wrap .i64 ((IntKind.wrap .i64 (p2 + (p0.size : Int))) + (2 : Int))) ≤ ((⟨#[32, 83, 69, 81, 32, 87, 72, 69, 82, 69, 32, 87, 73, 84, 72, 73, 78, 32, 67, 65, 80, 32, 97, 110, 100, 32, 111, 114, 32, 110, 111, 116, 32, 116, 114, 117, 101, 32, 102, 97, 108, 115, 101, 32]⟩ : ByteArray).size : Int)))) = true then
      (if decide ((⟨#[32]⟩ : ByteArray).size + p0.size ≤ 9223372036854775807) = true then
       (if decide (((⟨#[32]⟩ : ByteArray) ++ p0).size + (⟨#[32]⟩ : ByteArray).size ≤ 9223372036854775807) = true then
        (chk1 (if (((⟨#[32, 83, 69, 81, 32, 87, 72, 69, 82, 69, 32, 87, 73, 84, 72, 73, 78, 32, 67, 65, 80, 32, 97, 110, 100, 32, 111, 114, 32, 110, 111, 116, 32, 116, 114, 117, 101, 32, 102, 97, 108, 115, 101, 32]⟩ : ByteArray).extract p2.toNat (IntKind.wrap .i64 ((IntKind.wrap .i64 (p2 + (p0.size : Int))) + (2 : Int))).toNat).toList == (((⟨#[32]⟩ : ByteArray) ++ p0) ++ (⟨#[32]⟩ : ByteArray)).toList) = true then
          (κ false)
         else
          (chk1 (gL91_1 p0 p1 (IntKind.wrap .i64 (p2 + (1 : Int))) K))))
       else
        (none))
      else
       (none))
     else
      (none)))
   else
    (K p2))
def L91_1 : Nat → (Bool → Option Res) → ByteArray → Int → Int → (Int → Option Res) → Option Res
  | 0, _, _, _, _, _ => none
  | k + 1, κ, p0, p1, p2, K => L91_1_B (fun p0 p1 p2 K => L91_1 k κ p0 p1 p2 K) κ p0 p1 p2 K
def L91_1_s : Tr SC := Tr.of (nthD (.one .undef) [.one .str, .one .undef, .one .undef, .one .undef, .one .undef, .one .undef, .one .undef, .one .undef, .one .undef, .one .undef, .one .undef, .one .undef, .one .undef, .one .undef, .one .undef, .one .undef, .one .undef, .one .undef, .one .undef, .one .undef, .one .undef, .one .undef, .one .undef, .one .undef, .one .undef, .one .undef, .one .undef, .one .undef, .one .undef, .one .undef, .one .undef, .one .undef, .one .undef, .one .undef, .one .undef, .one .undef, .one .undef, .one .undef, .one .undef, .one .undef, .one .undef, .one .undef, .one (.int .i64), .one (.int .i64)]) 6
def L91_1_b : Tr (List SC) := Tr.of (nthD [] []) 6
def L91_1_m (g : ByteArray → Int → Int → (Int → Option Res) → Option Res) (lf : LoopF) : LoopF := fun p σ K => match pathEq p [true, true, true, false, true, false] with
  | true => match okSt 58 L91_1_s L91_1_b σ with
    | true => g (stringOf (Tr.val .undef σ.slots)) (intOf (Tr.val .undef (Tr.lft (Tr.rgt (Tr.lft (Tr.rgt (Tr.rgt σ.slots))))))) (intOf (Tr.val .undef (Tr.lft (Tr.rgt (Tr.rgt (Tr.lft (Tr.lft σ.slots))))))) (fun v => K (.exit 2) ⟨58, Tr.of (nthD .undef [.str (stringOf (Tr.val .undef σ.slots)), .undef, .undef, .undef, .undef, .undef, .undef, .undef, .undef, .undef, .undef, .undef, .undef, .undef, .undef, .undef, .undef, .undef, .undef, .undef, .undef, .undef, .undef, .undef, .undef, .undef, .undef, .undef, .undef, .undef, .undef, .undef, .undef, .undef, .undef, .undef, .undef, .undef, .undef, .undef, .undef, .undef, .int .i64 (intOf (Tr.val .undef (Tr.lft (Tr.rgt (Tr.lft (Tr.rgt (Tr.rgt σ.slots))))))), .int .i64 v]) 6, Tr.of (nthD [] []) 6⟩)
    | false => lf p σ K
  | false => lf p σ K
theorem L91_1_d (k : Nat) (κ : Res → Option Res) (h : ∀ (p0 : ByteArray) (p1 : Int) (p2 : Int) (K : Cont), (ev Try.prog cfg k).loop 91 0 κ [true, true, true, false, true, false] ⟨58, Tr.of (nthD .undef [.str p0, .undef, .undef, .undef, .undef, .undef, .undef, .undef, .undef, .undef, .undef, .undef, .undef, .undef, .undef, .undef, .undef, .undef, .undef, .undef, .undef, .undef, .undef, .undef, .undef, .undef, .undef, .undef, .undef, .undef, .undef, .undef, .undef, .undef, .undef, .undef, .undef, .undef, .undef, .undef, .undef, .undef, .int .i64 p1, .int .i64 p2]) 6, Tr.of (nthD [] []) 6⟩ K = L91_1 k (fun x => κ ((.bool x, []) : Res)) p0 p1 p2 (fun v => K (.exit 2) ⟨58, Tr.of (nthD .undef [.str p0, .undef, .undef, .undef, .undef, .undef, .undef, .undef, .undef, .undef, .undef, .undef, .undef, .undef, .undef, .undef, .undef, .undef, .undef, .undef, .undef, .undef, .undef, .undef, .undef, .undef, .undef, .undef, .undef, .undef, .undef, .undef, .undef, .undef, .undef, .undef, .undef, .undef, .undef, .undef, .undef, .undef, .int .i64 p1, .int .i64 v]) 6, Tr.of (nthD [] []) 6⟩)) : L91_1_m (L91_1 k (fun x => κ ((.bool x, []) : Res))) ((ev Try.prog cfg k).loop 91 0 κ) = (ev Try.prog cfg k).loop 91 0 κ := by
  funext p σ K
  unfold L91_1_m
  split
  · rename_i hp
    split
    · rename_i hs
      have e : mkSt 58 L91_1_s L91_1_b σ = ⟨58, Tr.of (nthD .undef [.str (stringOf (Tr.val .undef σ.slots)), .undef, .undef, .undef, .undef, .undef, .undef, .undef, .undef, .undef, .undef, .undef, .undef, .undef, .undef, .undef, .undef, .undef, .undef, .undef, .undef, .undef, .undef, .undef, .undef, .undef, .undef, .undef, .undef, .undef, .undef, .undef, .undef, .undef, .undef, .undef, .undef, .undef, .undef, .undef, .undef, .undef, .int .i64 (intOf (Tr.val .undef (Tr.lft (Tr.rgt (Tr.lft (Tr.rgt (Tr.rgt σ.slots))))))), .int .i64 (intOf (Tr.val .undef (Tr.lft (Tr.rgt (Tr.rgt (Tr.lft (Tr.lft σ.slots)))))))]) 6, Tr.of (nthD [] []) 6⟩ := by kernel_rfl
      rw [pathEq_eq hp]
      exact (h (stringOf (Tr.val .undef σ.slots)) (intOf (Tr.val .undef (Tr.lft (Tr.rgt (Tr.lft (Tr.rgt (Tr.rgt σ.slots))))))) (intOf (Tr.val .undef (Tr.lft (Tr.rgt (Tr.rgt (Tr.lft (Tr.lft σ.slots))))))) K).symm.trans (congrArg (fun s => (ev Try.prog cfg k).loop 91 0 κ [true, true, true, false, true, false] s K) (e.symm.trans (okSt_eq hs).symm))
    · rfl
  · rfl
theorem L91_1_k (gL91_1 : tL91_1) (cf : CallF) (lf : LoopF) (κ : Res → Option Res) (p0 : ByteArray) (p1 : Int) (p2 : Int) (K : Cont) : evLp Try.prog cfg cf (L91_1_m gL91_1 lf) 91 0 κ [true, true, true, false, true, false] ⟨58, Tr.of (nthD .undef [.str p0, .undef, .undef, .undef, .undef, .undef, .undef, .undef, .undef, .undef, .undef, .undef, .undef, .undef, .undef, .undef, .undef, .undef, .undef, .undef, .undef, .undef, .undef, .undef, .undef, .undef, .undef, .undef, .undef, .undef, .undef, .undef, .undef, .undef, .undef, .undef, .undef, .undef, .undef, .undef, .undef, .undef, .int .i64 p1, .int .i64 p2]) 6, Tr.of (nthD [] []) 6⟩ K = L91_1_B gL91_1 (fun x => κ ((.bool x, []) : Res)) p0 p1 p2 (fun v => K (.exit 2) ⟨58, Tr.of (nthD .undef [.str p0, .undef, .undef, .undef, .undef, .undef, .undef, .undef, .undef, .undef, .undef, .undef, .undef, .undef, .undef, .undef, .undef, .undef, .undef, .undef, .undef, .undef, .undef, .undef, .undef, .undef, .undef, .undef, .undef, .undef, .undef, .undef, .undef, .undef, .undef, .undef, .undef, .undef, .undef, .undef, .undef, .undef, .int .i64 p1, .int .i64 v]) 6, Tr.of (nthD [] []) 6⟩) := by
  kernel_rfl
theorem L91_1_ev : ∀ (k : Nat) (κ : Res → Option Res) (p0 : ByteArray) (p1 : Int) (p2 : Int) (K : Cont), (ev Try.prog cfg k).loop 91 0 κ [true, true, true, false, true, false] ⟨58, Tr.of (nthD .undef [.str p0, .undef, .undef, .undef, .undef, .undef, .undef, .undef, .undef, .undef, .undef, .undef, .undef, .undef, .undef, .undef, .undef, .undef, .undef, .undef, .undef, .undef, .undef, .undef, .undef, .undef, .undef, .undef, .undef, .undef, .undef, .undef, .undef, .undef, .undef, .undef, .undef, .undef, .undef, .undef, .undef, .undef, .int .i64 p1, .int .i64 p2]) 6, Tr.of (nthD [] []) 6⟩ K = L91_1 k (fun x => κ ((.bool x, []) : Res)) p0 p1 p2 (fun v => K (.exit 2) ⟨58, Tr.of (nthD .undef [.str p0, .undef, .undef, .undef, .undef, .undef, .undef, .undef, .undef, .undef, .undef, .undef, .undef, .undef, .undef, .undef, .undef, .undef, .undef, .undef, .undef, .undef, .undef, .undef, .undef, .undef, .undef, .undef, .undef, .undef, .undef, .undef, .undef, .undef, .undef, .undef, .undef, .undef, .undef, .undef, .undef, .undef, .int .i64 p1, .int .i64 v]) 6, Tr.of (nthD [] []) 6⟩) := by
  intro k κ
  induction k with
  | zero => intro p0 p1 p2 K; rfl
  | succ k ih =>
    intro p0 p1 p2 K
    rw [ev_loop, ← L91_1_d k κ ih]
    exact L91_1_k _ _ _ κ p0 p1 p2 K
def L91_0_B (gF133 : tF133) (gL91_0 : tL91_0) (κ : Bool → Option Res) (p0 : ByteArray) (p1 : Int) (p2 : Int) (K : Int → Option Res) : Option Res :=
  chk1 (if decide (p2 < p1) = true then
    (if (true && (decide ((0 : Int) ≤ p2) && decide (p2 < (p0.size : Int)))) = true then
     (chk1 (gF133 (byteAt p0 p2) fun x2 =>
      chk1 (if (!x2) = true then
        (chk1 (if decide ((byteAt p0 p2) < (48 : Int)) = true then
          (chk1 (κ false))
         else
          (chk1 (if decide ((byteAt p0 p2) > (57 : Int)) = true then
            (κ false)
           else
            (chk1 (gL91_0 p0 p1 (IntKind.wrap .i64 (p2 + (1 : Int))) K))))))
       else
        (if false = true then
         (none)
        else
         (chk1 (gL91_0 p0 p1 (IntKind.wrap .i64 (p2 + (1 : Int))) K))))))
    else
     (none))
   else
    (K p2))
def L91_0 : Nat → (Bool → Option Res) → ByteArray → Int → Int → (Int → Option Res) → Option Res
  | 0, _, _, _, _, _ => none
  | k + 1, κ, p0, p1, p2, K => L91_0_B (F133 k) (fun p0 p1 p2 K => L91_0 k κ p0 p1 p2 K) κ p0 p1 p2 K
def L91_0_s : Tr SC := Tr.of (nthD (.one .undef) [.one .str, .one .undef, .one .undef, .one .undef, .one .undef, .one .undef, .one .undef, .one .undef, .one .undef, .one .undef, .one .undef, .one .undef, .one .undef, .one .undef, .one .undef, .one .undef, .one .undef, .one .undef, .one .undef, .one .undef, .one (.int .i64), .one (.int .i64)]) 6
def L91_0_b : Tr (List SC) := Tr.of (nthD [] []) 6
def L91_0_m (g : ByteArray → Int → Int → (Int → Option Res) → Option Res) (lf : LoopF) : LoopF := fun p σ K => match pathEq p [true, true, false, true, false] with
  | true => match okSt 58 L91_0_s L91_0_b σ with
    | true => g (stringOf (Tr.val .undef σ.slots)) (intOf (Tr.val .undef (Tr.lft (Tr.rgt (Tr.lft (Tr.rgt σ.slots)))))) (intOf (Tr.val .undef (Tr.lft (Tr.rgt (Tr.rgt (Tr.lft σ.slots)))))) (fun v => K (.exit 0) ⟨58, Tr.of (nthD .undef [.str (stringOf (Tr.val .undef σ.slots)), .undef, .undef, .undef, .undef, .undef, .undef, .undef, .undef, .undef, .undef, .undef, .undef, .undef, .undef, .undef, .undef, .undef, .undef, .undef, .int .i64 (intOf (Tr.val .undef (Tr.lft (Tr.rgt (Tr.lft (Tr.rgt σ.slots)))))), .int .i64 v]) 6, Tr.of (nthD [] []) 6⟩)
    | false => lf p σ K
  | false => lf p σ K
theorem L91_0_d (k : Nat) (κ : Res → Option Res) (h : ∀ (p0 : ByteArray) (p1 : Int) (p2 : Int) (K : Cont), (ev Try.prog cfg k).loop 91 0 κ [true, true, false, true, false] ⟨58, Tr.of (nthD .undef [.str p0, .undef, .undef, .undef, .undef, .undef, .undef, .undef, .undef, .undef, .undef, .undef, .undef, .undef, .undef, .undef, .undef, .undef, .undef, .undef, .int .i64 p1, .int .i64 p2]) 6, Tr.of (nthD [] []) 6⟩ K = L91_0 k (fun x => κ ((.bool x, []) : Res)) p0 p1 p2 (fun v => K (.exit 0) ⟨58, Tr.of (nthD .undef [.str p0, .undef, .undef, .undef, .undef, .undef, .undef, .undef, .undef, .undef, .undef, .undef, .undef, .undef, .undef, .undef, .undef, .undef, .undef, .undef, .int .i64 p1, .int .i64 v]) 6, Tr.of (nthD [] []) 6⟩)) : L91_0_m (L91_0 k (fun x => κ ((.bool x, []) : Res))) ((ev Try.prog cfg k).loop 91 0 κ) = (ev Try.prog cfg k).loop 91 0 κ := by
  funext p σ K
  unfold L91_0_m
  split
  · rename_i hp
    split
    · rename_i hs
      have e : mkSt 58 L91_0_s L91_0_b σ = ⟨58, Tr.of (nthD .undef [.str (stringOf (Tr.val .undef σ.slots)), .undef, .undef, .undef, .undef, .undef, .undef, .undef, .undef, .undef, .undef, .undef, .undef, .undef, .undef, .undef, .undef, .undef, .undef, .undef, .int .i64 (intOf (Tr.val .undef (Tr.lft (Tr.rgt (Tr.lft (Tr.rgt σ.slots)))))), .int .i64 (intOf (Tr.val .undef (Tr.lft (Tr.rgt (Tr.rgt (Tr.lft σ.slots))))))]) 6, Tr.of (nthD [] []) 6⟩ := by kernel_rfl
      rw [pathEq_eq hp]
      exact (h (stringOf (Tr.val .undef σ.slots)) (intOf (Tr.val .undef (Tr.lft (Tr.rgt (Tr.lft (Tr.rgt σ.slots)))))) (intOf (Tr.val .undef (Tr.lft (Tr.rgt (Tr.rgt (Tr.lft σ.slots)))))) K).symm.trans (congrArg (fun s => (ev Try.prog cfg k).loop 91 0 κ [true, true, false, true, false] s K) (e.symm.trans (okSt_eq hs).symm))
    · rfl
  · rfl
theorem L91_0_k (gF133 : tF133) (gL91_0 : tL91_0) (cf : CallF) (lf : LoopF) (κ : Res → Option Res) (p0 : ByteArray) (p1 : Int) (p2 : Int) (K : Cont) : evLp Try.prog cfg (F133_m gF133 cf) (L91_0_m gL91_0 lf) 91 0 κ [true, true, false, true, false] ⟨58, Tr.of (nthD .undef [.str p0, .undef, .undef, .undef, .undef, .undef, .undef, .undef, .undef, .undef, .undef, .undef, .undef, .undef, .undef, .undef, .undef, .undef, .undef, .undef, .int .i64 p1, .int .i64 p2]) 6, Tr.of (nthD [] []) 6⟩ K = L91_0_B gF133 gL91_0 (fun x => κ ((.bool x, []) : Res)) p0 p1 p2 (fun v => K (.exit 0) ⟨58, Tr.of (nthD .undef [.str p0, .undef, .undef, .undef, .undef, .undef, .undef, .undef, .undef, .undef, .undef, .undef, .undef, .undef, .undef, .undef, .undef, .undef, .undef, .undef, .int .i64 p1, .int .i64 v]) 6, Tr.of (nthD [] []) 6⟩) := by
  kernel_rfl
theorem L91_0_ev : ∀ (k : Nat) (κ : Res → Option Res) (p0 : ByteArray) (p1 : Int) (p2 : Int) (K : Cont), (ev Try.prog cfg k).loop 91 0 κ [true, true, false, true, false] ⟨58, Tr.of (nthD .undef [.str p0, .undef, .undef, .undef, .undef, .undef, .undef, .undef, .undef, .undef, .undef, .undef, .undef, .undef, .undef, .undef, .undef, .undef, .undef, .undef, .int .i64 p1, .int .i64 p2]) 6, Tr.of (nthD [] []) 6⟩ K = L91_0 k (fun x => κ ((.bool x, []) : Res)) p0 p1 p2 (fun v => K (.exit 0) ⟨58, Tr.of (nthD .undef [.str p0, .undef, .undef, .undef, .undef, .undef, .undef, .undef, .undef, .undef, .undef, .undef, .undef, .undef, .undef, .undef, .undef, .undef, .undef, .undef, .int .i64 p1, .int .i64 v]) 6, Tr.of (nthD [] []) 6⟩) := by
  intro k κ
  induction k with
  | zero => intro p0 p1 p2 K; rfl
  | succ k ih =>
    intro p0 p1 p2 K
    rw [ev_loop, ← F133_d k (F133_ev k), ← L91_0_d k κ ih]
    exact L91_0_k _ _ _ _ κ p0 p1 p2 K
def F91_B (gF133 : tF133) (gL91_0 : tL91_0) (gL91_1 : tL91_1) (a0 : ByteArray) (κ : Bool → Option Res) : Option Res :=
  chk1 (if (a0.toList == (⟨#[]⟩ : ByteArray).toList) = true then
    (chk2 (κ false))
   else
    (chk2 (if decide ((a0.size : Int) > (16 : Int)) = true then
      (chk1 (κ false))
     else
      (if (true && (true && decide ((0 : Int) < (a0.size : Int)))) = true then
       (chk1 (gF133 (byteAt a0 (0 : Int)) fun x1 =>
        chk1 (if (!x1) = true then
          (κ false)
         else
          (chk1 (gL91_0 a0 (a0.size : Int) (0 : Int) fun v3 =>
           chk3 (gL91_1 a0 (IntKind.wrap .i64 ((IntKind.wrap .i64 ((44 : Int) - (a0.size : Int))) - (1 : Int))) (0 : Int) fun v4 =>
            κ true))))))
      else
       (none)))))
/-- lamplighter/schema.Name -/
def F91 : Nat → ByteArray → (Bool → Option Res) → Option Res
  | 0, _, _ => none
  | k + 1, a0, κ => F91_B (F133 k) (L91_0 k κ) (L91_1 k κ) a0 κ
def F91_s : List SC := [.one .str]
def F91_b : List (List SC) := []
def F91_m (g : ByteArray → (Bool → Option Res) → Option Res) (cf : CallF) : CallF := fun f args lent κ => match Nat.beq f 91 with
  | true => match okC F91_s args && okB F91_b lent with
    | true => g (stringOf (nth args 0)) (fun x => κ ((.bool x, []) : Res))
    | false => cf f args lent κ
  | false => cf f args lent κ
theorem F91_d (k : Nat) (h : ∀ (a0 : ByteArray) (κ : Res → Option Res), (ev Try.prog cfg k).call 91 [.str a0] [] κ = F91 k a0 (fun x => κ ((.bool x, []) : Res))) : F91_m (F91 k) (ev Try.prog cfg k).call = (ev Try.prog cfg k).call := by
  funext f args lent κ
  unfold F91_m
  split
  · rename_i hp
    split
    · rename_i hs
      rw [Bool.and_eq_true] at hs
      have e : mkC F91_s 0 args = [.str (stringOf (nth args 0))] := by kernel_rfl
      have e' : mkB F91_b 0 lent = [] := by kernel_rfl
      obtain rfl := Nat.eq_of_beq_eq_true hp
      exact (h (stringOf (nth args 0)) κ).symm.trans (cong2 (fun a l => (ev Try.prog cfg k).call 91 a l κ) (e.symm.trans (okC_eq hs.1).symm) (e'.symm.trans (okB_eq hs.2).symm))
    · rfl
  · rfl
theorem F91_k (gF133 : tF133) (gL91_0 : tL91_0) (gL91_1 : tL91_1) (cf : CallF) (lf : LoopF) (a0 : ByteArray) (κ : Res → Option Res) : evFn Try.prog cfg (F133_m gF133 cf) (L91_0_m gL91_0 (L91_1_m gL91_1 lf)) 91 [.str a0] [] κ = F91_B gF133 gL91_0 gL91_1 a0 (fun x => κ ((.bool x, []) : Res)) := by
  kernel_rfl
theorem F91_ev : ∀ (k : Nat) (a0 : ByteArray) (κ : Res → Option Res), (ev Try.prog cfg k).call 91 [.str a0] [] κ = F91 k a0 (fun x => κ ((.bool x, []) : Res)) := by
  intro k
  induction k with
  | zero => intros; rfl
  | succ k ih =>
    intro a0 κ
    refine (ev_call' Try.prog cfg k 91 0 _ _ κ (by rfl)).trans ?_
    rw [← F133_d k (F133_ev k), ← L91_0_d k κ (L91_0_ev k κ), ← L91_1_d k κ (L91_1_ev k κ)]
    exact F91_k _ _ _ _ _ a0 κ
def F135_B  (a0 : (ByteArray × Int)) (b0_0 : ByteArray) (b0_1 : Int) (κ : Bool × ByteArray × Int → Option Res) : Option Res :=
  chk2 (κ ((a0.1.toList == b0_0.toList), (b0_0, b0_1)))
/-- lamplighter/schema.fields$1 -/
def F135 : Nat → (ByteArray × Int) → ByteArray → Int → (Bool × ByteArray × Int → Option Res) → Option Res
  | 0, _, _, _, _ => none
  | k + 1, a0, b0_0, b0_1, κ => F135_B  a0 b0_0 b0_1 κ
def F135_s : List SC := [.agg [.str, .int .i64], .one (.ref 0 0)]
def F135_b : List (List SC) := [[.one .str, .one (.int .i64)]]
def F135_m (g : (ByteArray × Int) → ByteArray → Int → (Bool × ByteArray × Int → Option Res) → Option Res) (cf : CallF) : CallF := fun f args lent κ => match Nat.beq f 135 with
  | true => match okC F135_s args && okB F135_b lent with
    | true => g ((stringOf (nth (aggOf (nth args 0)) 0)), (intOf (nth (aggOf (nth args 0)) 1))) (stringOf (nth (nthB lent 0) 0)) (intOf (nth (nthB lent 0) 1)) (fun x => κ ((.bool x.1, [[.str x.2.1, .int .i64 x.2.2]]) : Res))
    | false => cf f args lent κ
  | false => cf f args lent κ
theorem F135_d (k : Nat) (h : ∀ (a0 : (ByteArray × Int)) (b0_0 : ByteArray) (b0_1 : Int) (κ : Res → Option Res), (ev Try.prog cfg k).call 135 [.agg [.str a0.1, .int .i64 a0.2], .ref 0 0] [[.str b0_0, .int .i64 b0_1]] κ = F135 k a0 b0_0 b0_1 (fun x => κ ((.bool x.1, [[.str x.2.1, .int .i64 x.2.2]]) : Res))) : F135_m (F135 k) (ev Try.prog cfg k).call = (ev Try.prog cfg k).call := by
  funext f args lent κ
  unfold F135_m
  split
  · rename_i hp
    split
    · rename_i hs
      rw [Bool.and_eq_true] at hs
      have e : mkC F135_s 0 args = [.agg [.str (stringOf (nth (aggOf (nth args 0)) 0)), .int .i64 (intOf (nth (aggOf (nth args 0)) 1))], .ref 0 0] := by kernel_rfl
      have e' : mkB F135_b 0 lent = [[.str (stringOf (nth (nthB lent 0) 0)), .int .i64 (intOf (nth (nthB lent 0) 1))]] := by kernel_rfl
      obtain rfl := Nat.eq_of_beq_eq_true hp
      exact (h ((stringOf (nth (aggOf (nth args 0)) 0)), (intOf (nth (aggOf (nth args 0)) 1))) (stringOf (nth (nthB lent 0) 0)) (intOf (nth (nthB lent 0) 1)) κ).symm.trans (cong2 (fun a l => (ev Try.prog cfg k).call 135 a l κ) (e.symm.trans (okC_eq hs.1).symm) (e'.symm.trans (okB_eq hs.2).symm))
    · rfl
  · rfl
theorem F135_k  (cf : CallF) (lf : LoopF) (a0 : (ByteArray × Int)) (b0_0 : ByteArray) (b0_1 : Int) (κ : Res → Option Res) : evFn Try.prog cfg cf lf 135 [.agg [.str a0.1, .int .i64 a0.2], .ref 0 0] [[.str b0_0, .int .i64 b0_1]] κ = F135_B  a0 b0_0 b0_1 (fun x => κ ((.bool x.1, [[.str x.2.1, .int .i64 x.2.2]]) : Res)) := by
  kernel_rfl
theorem F135_ev : ∀ (k : Nat) (a0 : (ByteArray × Int)) (b0_0 : ByteArray) (b0_1 : Int) (κ : Res → Option Res), (ev Try.prog cfg k).call 135 [.agg [.str a0.1, .int .i64 a0.2], .ref 0 0] [[.str b0_0, .int .i64 b0_1]] κ = F135 k a0 b0_0 b0_1 (fun x => κ ((.bool x.1, [[.str x.2.1, .int .i64 x.2.2]]) : Res)) := by
  intro k
  induction k with
  | zero => intros; rfl
  | succ k ih =>
    intro a0 b0_0 b0_1 κ
    refine (ev_call' Try.prog cfg k 135 1 _ _ κ (by rfl)).trans ?_
    skip
    exact F135_k  _ _ a0 b0_0 b0_1 κ
def L167_0_B (gF135 : tF135) (gL167_0 : tL167_0) (κ : Int × ByteArray × Int → Option Res) (p0 : (List (ByteArray × Int))) (p1 : Int) (p2 : Int) (p3 : ByteArray) (p4 : Int) (K : Int × ByteArray × Int → Option Res) : Option Res :=
  chk1 (if decide (p2 < p1) = true then
    (if (true && (decide ((0 : Int) ≤ p2) && decide (p2 < (p0.length : Int)))) = true then
     (chk1 (gF135 (p0.getD p2.toNat ((⟨#[]⟩ : ByteArray), (0 : Int))) p3 p4 fun x1 =>
      chk1 (if x1.1 = true then
        (κ (p2, (x1.2.1, x1.2.2)))
       else
        (chk1 (gL167_0 p0 p1 (IntKind.wrap .i64 (p2 + (1 : Int))) x1.2.1 x1.2.2 K)))))
    else
     (none))
   else
    (K (p2, (p3, p4))))
def L167_0 : Nat → (Int × ByteArray × Int → Option Res) → (List (ByteArray × Int)) → Int → Int → ByteArray → Int → (Int × ByteArray × Int → Option Res) → Option Res
  | 0, _, _, _, _, _, _, _ => none
  | k + 1, κ, p0, p1, p2, p3, p4, K => L167_0_B (F135 k) (fun p0 p1 p2 p3 p4 K => L167_0 k κ p0 p1 p2 p3 p4 K) κ p0 p1 p2 p3 p4 K
def L167_0_s : Tr SC := Tr.of (nthD (.one .undef) [.one (.list (.pair .str (.int .i64)) .no), .fn 135 [.ref 19 0], .one .undef, .one .undef, .one .undef, .one .undef, .one .undef, .one (.int .i64), .one (.int .i64)]) 5
def L167_0_b : Tr (List SC) := Tr.of (nthD [] [[], [], [], [], [], [], [], [], [], [], [], [], [], [], [], [], [], [], [], [.one .str, .one (.int .i64)]]) 5
def L167_0_m (g : (List (ByteArray × Int)) → Int → Int → ByteArray → Int → (Int × ByteArray × Int → Option Res) → Option Res) (lf : LoopF) : LoopF := fun p σ K => match pathEq p [true, false, true, false] with
  | true => match okSt 19 L167_0_s L167_0_b σ with
    | true => g (listOf (.pair .str (.int .i64)) (Tr.val .undef σ.slots)) (intOf (Tr.val .undef (Tr.lft (Tr.lft (Tr.lft σ.slots))))) (intOf (Tr.val .undef (Tr.lft (Tr.lft (Tr.rgt σ.slots))))) (stringOf (nth (Tr.val [] (Tr.lft (Tr.rgt (Tr.lft (Tr.lft σ.boxes))))) 0)) (intOf (nth (Tr.val [] (Tr.lft (Tr.rgt (Tr.lft (Tr.lft σ.boxes))))) 1)) (fun v => K (.exit 0) ⟨19, Tr.of (nthD .undef [.list (.pair .str (.int .i64)) (listOf (.pair .str (.int .i64)) (Tr.val .undef σ.slots)) .no, .fn 135 [.ref 19 0], .undef, .undef, .undef, .undef, .undef, .int .i64 (intOf (Tr.val .undef (Tr.lft (Tr.lft (Tr.lft σ.slots))))), .int .i64 v.1]) 5, Tr.of (nthD [] [[], [], [], [], [], [], [], [], [], [], [], [], [], [], [], [], [], [], [], [.str v.2.1, .int .i64 v.2.2]]) 5⟩)
    | false => lf p σ K
  | false => lf p σ K
theorem L167_0_d (k : Nat) (κ : Res → Option Res) (h : ∀ (p0 : (List (ByteArray × Int))) (p1 : Int) (p2 : Int) (p3 : ByteArray) (p4 : Int) (K : Cont), (ev Try.prog cfg k).loop 167 1 κ [true, false, true, false] ⟨19, Tr.of (nthD .undef [.list (.pair .str (.int .i64)) p0 .no, .fn 135 [.ref 19 0], .undef, .undef, .undef, .undef, .undef, .int .i64 p1, .int .i64 p2]) 5, Tr.of (nthD [] [[], [], [], [], [], [], [], [], [], [], [], [], [], [], [], [], [], [], [], [.str p3, .int .i64 p4]]) 5⟩ K = L167_0 k (fun x => κ ((.int .i64 x.1, [[.str x.2.1, .int .i64 x.2.2]]) : Res)) p0 p1 p2 p3 p4 (fun v => K (.exit 0) ⟨19, Tr.of (nthD .undef [.list (.pair .str (.int .i64)) p0 .no, .fn 135 [.ref 19 0], .undef, .undef, .undef, .undef, .undef, .int .i64 p1, .int .i64 v.1]) 5, Tr.of (nthD [] [[], [], [], [], [], [], [], [], [], [], [], [], [], [], [], [], [], [], [], [.str v.2.1, .int .i64 v.2.2]]) 5⟩)) : L167_0_m (L167_0 k (fun x => κ ((.int .i64 x.1, [[.str x.2.1, .int .i64 x.2.2]]) : Res))) ((ev Try.prog cfg k).loop 167 1 κ) = (ev Try.prog cfg k).loop 167 1 κ := by
  funext p σ K
  unfold L167_0_m
  split
  · rename_i hp
    split
    · rename_i hs
      have e : mkSt 19 L167_0_s L167_0_b σ = ⟨19, Tr.of (nthD .undef [.list (.pair .str (.int .i64)) (listOf (.pair .str (.int .i64)) (Tr.val .undef σ.slots)) .no, .fn 135 [.ref 19 0], .undef, .undef, .undef, .undef, .undef, .int .i64 (intOf (Tr.val .undef (Tr.lft (Tr.lft (Tr.lft σ.slots))))), .int .i64 (intOf (Tr.val .undef (Tr.lft (Tr.lft (Tr.rgt σ.slots)))))]) 5, Tr.of (nthD [] [[], [], [], [], [], [], [], [], [], [], [], [], [], [], [], [], [], [], [], [.str (stringOf (nth (Tr.val [] (Tr.lft (Tr.rgt (Tr.lft (Tr.lft σ.boxes))))) 0)), .int .i64 (intOf (nth (Tr.val [] (Tr.lft (Tr.rgt (Tr.lft (Tr.lft σ.boxes))))) 1))]]) 5⟩ := by kernel_rfl
      rw [pathEq_eq hp]
      exact (h (listOf (.pair .str (.int .i64)) (Tr.val .undef σ.slots)) (intOf (Tr.val .undef (Tr.lft (Tr.lft (Tr.lft σ.slots))))) (intOf (Tr.val .undef (Tr.lft (Tr.lft (Tr.rgt σ.slots))))) (stringOf (nth (Tr.val [] (Tr.lft (Tr.rgt (Tr.lft (Tr.lft σ.boxes))))) 0)) (intOf (nth (Tr.val [] (Tr.lft (Tr.rgt (Tr.lft (Tr.lft σ.boxes))))) 1)) K).symm.trans (congrArg (fun s => (ev Try.prog cfg k).loop 167 1 κ [true, false, true, false] s K) (e.symm.trans (okSt_eq hs).symm))
    · rfl
  · rfl
theorem L167_0_k (gF135 : tF135) (gL167_0 : tL167_0) (cf : CallF) (lf : LoopF) (κ : Res → Option Res) (p0 : (List (ByteArray × Int))) (p1 : Int) (p2 : Int) (p3 : ByteArray) (p4 : Int) (K : Cont) : evLp Try.prog cfg (F135_m gF135 cf) (L167_0_m gL167_0 lf) 167 1 κ [true, false, true, false] ⟨19, Tr.of (nthD .undef [.list (.pair .str (.int .i64)) p0 .no, .fn 135 [.ref 19 0], .undef, .undef, .undef, .undef, .undef, .int .i64 p1, .int .i64 p2]) 5, Tr.of (nthD [] [[], [], [], [], [], [], [], [], [], [], [], [], [], [], [], [], [], [], [], [.str p3, .int .i64 p4]]) 5⟩ K = L167_0_B gF135 gL167_0 (fun x => κ ((.int .i64 x.1, [[.str x.2.1, .int .i64 x.2.2]]) : Res)) p0 p1 p2 p3 p4 (fun v => K (.exit 0) ⟨19, Tr.of (nthD .undef [.list (.pair .str (.int .i64)) p0 .no, .fn 135 [.ref 19 0], .undef, .undef, .undef, .undef, .undef, .int .i64 p1, .int .i64 v.1]) 5, Tr.of (nthD [] [[], [], [], [], [], [], [], [], [], [], [], [], [], [], [], [], [], [], [], [.str v.2.1, .int .i64 v.2.2]]) 5⟩) := by
  kernel_rfl
theorem L167_0_ev : ∀ (k : Nat) (κ : Res → Option Res) (p0 : (List (ByteArray × Int))) (p1 : Int) (p2 : Int) (p3 : ByteArray) (p4 : Int) (K : Cont), (ev Try.prog cfg k).loop 167 1 κ [true, false, true, false] ⟨19, Tr.of (nthD .undef [.list (.pair .str (.int .i64)) p0 .no, .fn 135 [.ref 19 0], .undef, .undef, .undef, .undef, .undef, .int .i64 p1, .int .i64 p2]) 5, Tr.of (nthD [] [[], [], [], [], [], [], [], [], [], [], [], [], [], [], [], [], [], [], [], [.str p3, .int .i64 p4]]) 5⟩ K = L167_0 k (fun x => κ ((.int .i64 x.1, [[.str x.2.1, .int .i64 x.2.2]]) : Res)) p0 p1 p2 p3 p4 (fun v => K (.exit 0) ⟨19, Tr.of (nthD .undef [.list (.pair .str (.int .i64)) p0 .no, .fn 135 [.ref 19 0], .undef, .undef, .undef, .undef, .undef, .int .i64 p1, .int .i64 v.1]) 5, Tr.of (nthD [] [[], [], [], [], [], [], [], [], [], [], [], [], [], [], [], [], [], [], [], [.str v.2.1, .int .i64 v.2.2]]) 5⟩) := by
  intro k κ
  induction k with
  | zero => intro p0 p1 p2 p3 p4 K; rfl
  | succ k ih =>
    intro p0 p1 p2 p3 p4 K
    rw [ev_loop, ← F135_d k (F135_ev k), ← L167_0_d k κ ih]
    exact L167_0_k _ _ _ _ κ p0 p1 p2 p3 p4 K
def F167_B (gF135 : tF135) (gL167_0 : tL167_0) (a0 : (List (ByteArray × Int))) (b0_0 : ByteArray) (b0_1 : Int) (κ : Int × ByteArray × Int → Option Res) : Option Res :=
  chk1 (gL167_0 a0 (a0.length : Int) (0 : Int) b0_0 b0_1 fun v2 =>
   κ ((-1 : Int), (v2.2.1, v2.2.2)))
/-- slices.IndexFunc[[]lamplighter/api.Field,lamplighter/api.Field] -/
def F167 : Nat → (List (ByteArray × Int)) → ByteArray → Int → (Int × ByteArray × Int → Option Res) → Option Res
  | 0, _, _, _, _ => none
  | k + 1, a0, b0_0, b0_1, κ => F167_B (F135 k) (L167_0 k κ) a0 b0_0 b0_1 κ
def F167_s : List SC := [.one (.list (.pair .str (.int .i64)) .no), .fn 135 [.ref 0 0]]
def F167_b : List (List SC) := [[.one .str, .one (.int .i64)]]
def F167_m (g : (List (ByteArray × Int)) → ByteArray → Int → (Int × ByteArray × Int → Option Res) → Option Res) (cf : CallF) : CallF := fun f args lent κ => match Nat.beq f 167 with
  | true => match okC F167_s args && okB F167_b lent with
    | true => g (listOf (.pair .str (.int .i64)) (nth args 0)) (stringOf (nth (nthB lent 0) 0)) (intOf (nth (nthB lent 0) 1)) (fun x => κ ((.int .i64 x.1, [[.str x.2.1, .int .i64 x.2.2]]) : Res))
    | false => cf f args lent κ
  | false => cf f args lent κ
theorem F167_d (k : Nat) (h : ∀ (a0 : (List (ByteArray × Int))) (b0_0 : ByteArray) (b0_1 : Int) (κ : Res → Option Res), (ev Try.prog cfg k).call 167 [.list (.pair .str (.int .i64)) a0 .no, .fn 135 [.ref 0 0]] [[.str b0_0, .int .i64 b0_1]] κ = F167 k a0 b0_0 b0_1 (fun x => κ ((.int .i64 x.1, [[.str x.2.1, .int .i64 x.2.2]]) : Res))) : F167_m (F167 k) (ev Try.prog cfg k).call = (ev Try.prog cfg k).call := by
  funext f args lent κ
  unfold F167_m
  split
  · rename_i hp
    split
    · rename_i hs
      rw [Bool.and_eq_true] at hs
      have e : mkC F167_s 0 args = [.list (.pair .str (.int .i64)) (listOf (.pair .str (.int .i64)) (nth args 0)) .no, .fn 135 [.ref 0 0]] := by kernel_rfl
      have e' : mkB F167_b 0 lent = [[.str (stringOf (nth (nthB lent 0) 0)), .int .i64 (intOf (nth (nthB lent 0) 1))]] := by kernel_rfl
      obtain rfl := Nat.eq_of_beq_eq_true hp
      exact (h (listOf (.pair .str (.int .i64)) (nth args 0)) (stringOf (nth (nthB lent 0) 0)) (intOf (nth (nthB lent 0) 1)) κ).symm.trans (cong2 (fun a l => (ev Try.prog cfg k).call 167 a l κ) (e.symm.trans (okC_eq hs.1).symm) (e'.symm.trans (okB_eq hs.2).symm))
    · rfl
  · rfl
theorem F167_k (gF135 : tF135) (gL167_0 : tL167_0) (cf : CallF) (lf : LoopF) (a0 : (List (ByteArray × Int))) (b0_0 : ByteArray) (b0_1 : Int) (κ : Res → Option Res) : evFn Try.prog cfg (F135_m gF135 cf) (L167_0_m gL167_0 lf) 167 [.list (.pair .str (.int .i64)) a0 .no, .fn 135 [.ref 0 0]] [[.str b0_0, .int .i64 b0_1]] κ = F167_B gF135 gL167_0 a0 b0_0 b0_1 (fun x => κ ((.int .i64 x.1, [[.str x.2.1, .int .i64 x.2.2]]) : Res)) := by
  kernel_rfl
theorem F167_ev : ∀ (k : Nat) (a0 : (List (ByteArray × Int))) (b0_0 : ByteArray) (b0_1 : Int) (κ : Res → Option Res), (ev Try.prog cfg k).call 167 [.list (.pair .str (.int .i64)) a0 .no, .fn 135 [.ref 0 0]] [[.str b0_0, .int .i64 b0_1]] κ = F167 k a0 b0_0 b0_1 (fun x => κ ((.int .i64 x.1, [[.str x.2.1, .int .i64 x.2.2]]) : Res)) := by
  intro k
  induction k with
  | zero => intros; rfl
  | succ k ih =>
    intro a0 b0_0 b0_1 κ
    refine (ev_call' Try.prog cfg k 167 1 _ _ κ (by rfl)).trans ?_
    rw [← F135_d k (F135_ev k), ← L167_0_d k κ (L167_0_ev k κ)]
    exact F167_k _ _ _ _ a0 b0_0 b0_1 κ
def F134_B (gF167 : tF167) (a0 : (List (ByteArray × Int))) (b0_0 : ByteArray) (b0_1 : Int) (κ : Bool × ByteArray × Int → Option Res) : Option Res :=
  chk1 (gF167 a0 b0_0 b0_1 fun x1 =>
   chk2 (κ (decide (x1.1 ≥ (0 : Int)), (x1.2.1, x1.2.2))))
/-- slices.ContainsFunc[[]lamplighter/api.Field,lamplighter/api.Field] -/
def F134 : Nat → (List (ByteArray × Int)) → ByteArray → Int → (Bool × ByteArray × Int → Option Res) → Option Res
  | 0, _, _, _, _ => none
  | k + 1, a0, b0_0, b0_1, κ => F134_B (F167 k) a0 b0_0 b0_1 κ
def F134_s : List SC := [.one (.list (.pair .str (.int .i64)) .no), .fn 135 [.ref 0 0]]
def F134_b : List (List SC) := [[.one .str, .one (.int .i64)]]
def F134_m (g : (List (ByteArray × Int)) → ByteArray → Int → (Bool × ByteArray × Int → Option Res) → Option Res) (cf : CallF) : CallF := fun f args lent κ => match Nat.beq f 134 with
  | true => match okC F134_s args && okB F134_b lent with
    | true => g (listOf (.pair .str (.int .i64)) (nth args 0)) (stringOf (nth (nthB lent 0) 0)) (intOf (nth (nthB lent 0) 1)) (fun x => κ ((.bool x.1, [[.str x.2.1, .int .i64 x.2.2]]) : Res))
    | false => cf f args lent κ
  | false => cf f args lent κ
theorem F134_d (k : Nat) (h : ∀ (a0 : (List (ByteArray × Int))) (b0_0 : ByteArray) (b0_1 : Int) (κ : Res → Option Res), (ev Try.prog cfg k).call 134 [.list (.pair .str (.int .i64)) a0 .no, .fn 135 [.ref 0 0]] [[.str b0_0, .int .i64 b0_1]] κ = F134 k a0 b0_0 b0_1 (fun x => κ ((.bool x.1, [[.str x.2.1, .int .i64 x.2.2]]) : Res))) : F134_m (F134 k) (ev Try.prog cfg k).call = (ev Try.prog cfg k).call := by
  funext f args lent κ
  unfold F134_m
  split
  · rename_i hp
    split
    · rename_i hs
      rw [Bool.and_eq_true] at hs
      have e : mkC F134_s 0 args = [.list (.pair .str (.int .i64)) (listOf (.pair .str (.int .i64)) (nth args 0)) .no, .fn 135 [.ref 0 0]] := by kernel_rfl
      have e' : mkB F134_b 0 lent = [[.str (stringOf (nth (nthB lent 0) 0)), .int .i64 (intOf (nth (nthB lent 0) 1))]] := by kernel_rfl
      obtain rfl := Nat.eq_of_beq_eq_true hp
      exact (h (listOf (.pair .str (.int .i64)) (nth args 0)) (stringOf (nth (nthB lent 0) 0)) (intOf (nth (nthB lent 0) 1)) κ).symm.trans (cong2 (fun a l => (ev Try.prog cfg k).call 134 a l κ) (e.symm.trans (okC_eq hs.1).symm) (e'.symm.trans (okB_eq hs.2).symm))
    · rfl
  · rfl
theorem F134_k (gF167 : tF167) (cf : CallF) (lf : LoopF) (a0 : (List (ByteArray × Int))) (b0_0 : ByteArray) (b0_1 : Int) (κ : Res → Option Res) : evFn Try.prog cfg (F167_m gF167 cf) lf 134 [.list (.pair .str (.int .i64)) a0 .no, .fn 135 [.ref 0 0]] [[.str b0_0, .int .i64 b0_1]] κ = F134_B gF167 a0 b0_0 b0_1 (fun x => κ ((.bool x.1, [[.str x.2.1, .int .i64 x.2.2]]) : Res)) := by
  kernel_rfl
theorem F134_ev : ∀ (k : Nat) (a0 : (List (ByteArray × Int))) (b0_0 : ByteArray) (b0_1 : Int) (κ : Res → Option Res), (ev Try.prog cfg k).call 134 [.list (.pair .str (.int .i64)) a0 .no, .fn 135 [.ref 0 0]] [[.str b0_0, .int .i64 b0_1]] κ = F134 k a0 b0_0 b0_1 (fun x => κ ((.bool x.1, [[.str x.2.1, .int .i64 x.2.2]]) : Res)) := by
  intro k
  induction k with
  | zero => intros; rfl
  | succ k ih =>
    intro a0 b0_0 b0_1 κ
    refine (ev_call' Try.prog cfg k 134 1 _ _ κ (by rfl)).trans ?_
    rw [← F167_d k (F167_ev k)]
    exact F134_k _ _ _ a0 b0_0 b0_1 κ
def L92_0_B (gF91 : tF91) (gF134 : tF134) (gL92_0 : tL92_0) (κ : Bool → Option Res) (p0 : (List (ByteArray × Int))) (p1 : (List (ByteArray × Int))) (p2 : Int) (p3 : Int) (K : Int → Option Res) : Option Res :=
  chk1 (if decide (p3 < p2) = true then
    (if (true && (decide ((0 : Int) ≤ p3) && decide (p3 < (p1.length : Int)))) = true then
     (chk4 (gF91 ((p1.getD p3.toNat ((⟨#[]⟩ : ByteArray), (0 : Int))).1) fun x1 =>
      chk1 (if (!x1) = true then
        (chk2 (κ false))
       else
        (chk1 (if decide (((p1.getD p3.toNat ((⟨#[]⟩ : ByteArray), (0 : Int))).2) < (1 : Int)) = true then
          (chk1 (κ false))
         else
          (chk1 (if decide (((p1.getD p3.toNat ((⟨#[]⟩ : ByteArray), (0 : Int))).2) > (3 : Int)) = true then
            (κ false)
           else
            (if (true && (decide ((0 : Int) ≤ p3) && decide (p3 ≤ (p0.length : Int)))) = true then
             (chk2 (gF134 ((p0.take p3.toNat).drop (0 : Int).toNat) ((p1.getD p3.toNat ((⟨#[]⟩ : ByteArray), (0 : Int))).1) ((p1.getD p3.toNat ((⟨#[]⟩ : ByteArray), (0 : Int))).2) fun x2 =>
              chk1 (if x2.1 = true then
                (κ false)
               else
                (chk1 (gL92_0 p0 p1 p2 (IntKind.wrap .i64 (p3 + (1 : Int))) K)))))
            else
             (none)))))))))
    else
     (none))
   else
    (K p3))
def L92_0 : Nat → (Bool → Option Res) → (List (ByteArray × Int)) → (List (ByteArray × Int)) → Int → Int → (Int → Option Res) → Option Res
  | 0, _, _, _, _, _, _ => none
  | k + 1, κ, p0, p1, p2, p3, K => L92_0_B (F91 k) (F134 k) (fun p0 p1 p2 p3 K => L92_0 k κ p0 p1 p2 p3 K) κ p0 p1 p2 p3 K
def L92_0_s : Tr SC := Tr.of (nthD (.one .undef) [.one (.list (.pair .str (.int .i64)) .no), .one .undef, .one .undef, .one .undef, .one .undef, .one .undef, .one .undef, .one .undef, .one (.list (.pair .str (.int .i64)) .no), .one (.int .i64), .one (.int .i64)]) 6
def L92_0_b : Tr (List SC) := Tr.of (nthD [] []) 6
def L92_0_m (g : (List (ByteArray × Int)) → (List (ByteArray × Int)) → Int → Int → (Int → Option Res) → Option Res) (lf : LoopF) : LoopF := fun p σ K => match pathEq p [true, true, false, true, false] with
  | true => match okSt 35 L92_0_s L92_0_b σ with
    | true => g (listOf (.pair .str (.int .i64)) (Tr.val .undef σ.slots)) (listOf (.pair .str (.int .i64)) (Tr.val .undef (Tr.lft (Tr.lft (Tr.rgt σ.slots))))) (intOf (Tr.val .undef (Tr.lft (Tr.rgt (Tr.lft σ.slots))))) (intOf (Tr.val .undef (Tr.lft (Tr.rgt (Tr.rgt σ.slots))))) (fun v => K (.exit 0) ⟨35, Tr.of (nthD .undef [.list (.pair .str (.int .i64)) (listOf (.pair .str (.int .i64)) (Tr.val .undef σ.slots)) .no, .undef, .undef, .undef, .undef, .undef, .undef, .undef, .list (.pair .str (.int .i64)) (listOf (.pair .str (.int .i64)) (Tr.val .undef (Tr.lft (Tr.lft (Tr.rgt σ.slots))))) .no, .int .i64 (intOf (Tr.val .undef (Tr.lft (Tr.rgt (Tr.lft σ.slots))))), .int .i64 v]) 6, Tr.of (nthD [] []) 6⟩)
    | false => lf p σ K
  | false => lf p σ K
theorem L92_0_d (k : Nat) (κ : Res → Option Res) (h : ∀ (p0 : (List (ByteArray × Int))) (p1 : (List (ByteArray × Int))) (p2 : Int) (p3 : Int) (K : Cont), (ev Try.prog cfg k).loop 92 0 κ [true, true, false, true, false] ⟨35, Tr.of (nthD .undef [.list (.pair .str (.int .i64)) p0 .no, .undef, .undef, .undef, .undef, .undef, .undef, .undef, .list (.pair .str (.int .i64)) p1 .no, .int .i64 p2, .int .i64 p3]) 6, Tr.of (nthD [] []) 6⟩ K = L92_0 k (fun x => κ ((.bool x, []) : Res)) p0 p1 p2 p3 (fun v => K (.exit 0) ⟨35, Tr.of (nthD .undef [.list (.pair .str (.int .i64)) p0 .no, .undef, .undef, .undef, .undef, .undef, .undef, .undef, .list (.pair .str (.int .i64)) p1 .no, .int .i64 p2, .int .i64 v]) 6, Tr.of (nthD [] []) 6⟩)) : L92_0_m (L92_0 k (fun x => κ ((.bool x, []) : Res))) ((ev Try.prog cfg k).loop 92 0 κ) = (ev Try.prog cfg k).loop 92 0 κ := by
  funext p σ K
  unfold L92_0_m
  split
  · rename_i hp
    split
    · rename_i hs
      have e : mkSt 35 L92_0_s L92_0_b σ = ⟨35, Tr.of (nthD .undef [.list (.pair .str (.int .i64)) (listOf (.pair .str (.int .i64)) (Tr.val .undef σ.slots)) .no, .undef, .undef, .undef, .undef, .undef, .undef, .undef, .list (.pair .str (.int .i64)) (listOf (.pair .str (.int .i64)) (Tr.val .undef (Tr.lft (Tr.lft (Tr.rgt σ.slots))))) .no, .int .i64 (intOf (Tr.val .undef (Tr.lft (Tr.rgt (Tr.lft σ.slots))))), .int .i64 (intOf (Tr.val .undef (Tr.lft (Tr.rgt (Tr.rgt σ.slots)))))]) 6, Tr.of (nthD [] []) 6⟩ := by kernel_rfl
      rw [pathEq_eq hp]
      exact (h (listOf (.pair .str (.int .i64)) (Tr.val .undef σ.slots)) (listOf (.pair .str (.int .i64)) (Tr.val .undef (Tr.lft (Tr.lft (Tr.rgt σ.slots))))) (intOf (Tr.val .undef (Tr.lft (Tr.rgt (Tr.lft σ.slots))))) (intOf (Tr.val .undef (Tr.lft (Tr.rgt (Tr.rgt σ.slots))))) K).symm.trans (congrArg (fun s => (ev Try.prog cfg k).loop 92 0 κ [true, true, false, true, false] s K) (e.symm.trans (okSt_eq hs).symm))
    · rfl
  · rfl
theorem L92_0_k (gF91 : tF91) (gF134 : tF134) (gL92_0 : tL92_0) (cf : CallF) (lf : LoopF) (κ : Res → Option Res) (p0 : (List (ByteArray × Int))) (p1 : (List (ByteArray × Int))) (p2 : Int) (p3 : Int) (K : Cont) : evLp Try.prog cfg (F91_m gF91 (F134_m gF134 cf)) (L92_0_m gL92_0 lf) 92 0 κ [true, true, false, true, false] ⟨35, Tr.of (nthD .undef [.list (.pair .str (.int .i64)) p0 .no, .undef, .undef, .undef, .undef, .undef, .undef, .undef, .list (.pair .str (.int .i64)) p1 .no, .int .i64 p2, .int .i64 p3]) 6, Tr.of (nthD [] []) 6⟩ K = L92_0_B gF91 gF134 gL92_0 (fun x => κ ((.bool x, []) : Res)) p0 p1 p2 p3 (fun v => K (.exit 0) ⟨35, Tr.of (nthD .undef [.list (.pair .str (.int .i64)) p0 .no, .undef, .undef, .undef, .undef, .undef, .undef, .undef, .list (.pair .str (.int .i64)) p1 .no, .int .i64 p2, .int .i64 v]) 6, Tr.of (nthD [] []) 6⟩) := by
  kernel_rfl
theorem L92_0_ev : ∀ (k : Nat) (κ : Res → Option Res) (p0 : (List (ByteArray × Int))) (p1 : (List (ByteArray × Int))) (p2 : Int) (p3 : Int) (K : Cont), (ev Try.prog cfg k).loop 92 0 κ [true, true, false, true, false] ⟨35, Tr.of (nthD .undef [.list (.pair .str (.int .i64)) p0 .no, .undef, .undef, .undef, .undef, .undef, .undef, .undef, .list (.pair .str (.int .i64)) p1 .no, .int .i64 p2, .int .i64 p3]) 6, Tr.of (nthD [] []) 6⟩ K = L92_0 k (fun x => κ ((.bool x, []) : Res)) p0 p1 p2 p3 (fun v => K (.exit 0) ⟨35, Tr.of (nthD .undef [.list (.pair .str (.int .i64)) p0 .no, .undef, .undef, .undef, .undef, .undef, .undef, .undef, .list (.pair .str (.int .i64)) p1 .no, .int .i64 p2, .int .i64 v]) 6, Tr.of (nthD [] []) 6⟩) := by
  intro k κ
  induction k with
  | zero => intro p0 p1 p2 p3 K; rfl
  | succ k ih =>
    intro p0 p1 p2 p3 K
    rw [ev_loop, ← F91_d k (F91_ev k), ← F134_d k (F134_ev k), ← L92_0_d k κ ih]
    exact L92_0_k _ _ _ _ _ κ p0 p1 p2 p3 K
def F92_B (gF91 : tF91) (gF134 : tF134) (gL92_0 : tL92_0) (a0 : (List (ByteArray × Int))) (κ : Bool → Option Res) : Option Res :=
  chk2 (if decide ((a0.length : Int) > (8 : Int)) = true then
    (κ false)
   else
    (chk1 (gL92_0 a0 a0 (a0.length : Int) (0 : Int) fun v3 =>
     κ true)))
/-- lamplighter/schema.fields -/
def F92 : Nat → (List (ByteArray × Int)) → (Bool → Option Res) → Option Res
  | 0, _, _ => none
  | k + 1, a0, κ => F92_B (F91 k) (F134 k) (L92_0 k κ) a0 κ
def F92_s : List SC := [.one (.list (.pair .str (.int .i64)) .no)]
def F92_b : List (List SC) := []
def F92_m (g : (List (ByteArray × Int)) → (Bool → Option Res) → Option Res) (cf : CallF) : CallF := fun f args lent κ => match Nat.beq f 92 with
  | true => match okC F92_s args && okB F92_b lent with
    | true => g (listOf (.pair .str (.int .i64)) (nth args 0)) (fun x => κ ((.bool x, []) : Res))
    | false => cf f args lent κ
  | false => cf f args lent κ
theorem F92_d (k : Nat) (h : ∀ (a0 : (List (ByteArray × Int))) (κ : Res → Option Res), (ev Try.prog cfg k).call 92 [.list (.pair .str (.int .i64)) a0 .no] [] κ = F92 k a0 (fun x => κ ((.bool x, []) : Res))) : F92_m (F92 k) (ev Try.prog cfg k).call = (ev Try.prog cfg k).call := by
  funext f args lent κ
  unfold F92_m
  split
  · rename_i hp
    split
    · rename_i hs
      rw [Bool.and_eq_true] at hs
      have e : mkC F92_s 0 args = [.list (.pair .str (.int .i64)) (listOf (.pair .str (.int .i64)) (nth args 0)) .no] := by kernel_rfl
      have e' : mkB F92_b 0 lent = [] := by kernel_rfl
      obtain rfl := Nat.eq_of_beq_eq_true hp
      exact (h (listOf (.pair .str (.int .i64)) (nth args 0)) κ).symm.trans (cong2 (fun a l => (ev Try.prog cfg k).call 92 a l κ) (e.symm.trans (okC_eq hs.1).symm) (e'.symm.trans (okB_eq hs.2).symm))
    · rfl
  · rfl
theorem F92_k (gF91 : tF91) (gF134 : tF134) (gL92_0 : tL92_0) (cf : CallF) (lf : LoopF) (a0 : (List (ByteArray × Int))) (κ : Res → Option Res) : evFn Try.prog cfg (F91_m gF91 (F134_m gF134 cf)) (L92_0_m gL92_0 lf) 92 [.list (.pair .str (.int .i64)) a0 .no] [] κ = F92_B gF91 gF134 gL92_0 a0 (fun x => κ ((.bool x, []) : Res)) := by
  kernel_rfl
theorem F92_ev : ∀ (k : Nat) (a0 : (List (ByteArray × Int))) (κ : Res → Option Res), (ev Try.prog cfg k).call 92 [.list (.pair .str (.int .i64)) a0 .no] [] κ = F92 k a0 (fun x => κ ((.bool x, []) : Res)) := by
  intro k
  induction k with
  | zero => intros; rfl
  | succ k ih =>
    intro a0 κ
    refine (ev_call' Try.prog cfg k 92 0 _ _ κ (by rfl)).trans ?_
    rw [← F91_d k (F91_ev k), ← F134_d k (F134_ev k), ← L92_0_d k κ (L92_0_ev k κ)]
    exact F92_k _ _ _ _ _ a0 κ
def L93_0_B (gL93_0 : tL93_0) (κ : T4 × Bool × T5 → Option Res) (p0 : ByteArray) (p1 : Int) (p2 : Int) (p3 : ByteArray) (p4 : (List (ByteArray × Int))) (p5 : T5) (K : Int → Option Res) : Option Res :=
  chk1 (if decide (p2 < p1) = true then
    (if (true && (decide ((0 : Int) ≤ p2) && decide (p2 < (p5.length : Int)))) = true then
     (if decide (p2.toNat < p5.length) = true then
      (chk4 (if (((p5.getD p2.toNat ((⟨#[]⟩ : ByteArray), ([] : List (ByteArray × Int)))).1).toList == p0.toList) = true then
        (if (true && (true && decide (((p5.getD p2.toNat ((⟨#[]⟩ : ByteArray), ([] : List (ByteArray × Int)))).2).length ≤ 1000000))) = true then chk5 (κ ((p5.getD p2.toNat ((⟨#[]⟩ : ByteArray), ([] : List (ByteArray × Int)))), (true, p5))) else none)
       else
        (chk1 (gL93_0 p0 p1 (IntKind.wrap .i64 (p2 + (1 : Int))) p3 p4 p5 K))))
     else
      (none))
    else
     (none))
   else
    (K p2))
def L93_0 : Nat → (T4 × Bool × T5 → Option Res) → ByteArray → Int → Int → ByteArray → (List (ByteArray × Int)) → T5 → (Int → Option Res) → Option Res
  | 0, _, _, _, _, _, _, _, _ => none
  | k + 1, κ, p0, p1, p2, p3, p4, p5, K => L93_0_B (fun p0 p1 p2 p3 p4 p5 K => L93_0 k κ p0 p1 p2 p3 p4 p5 K) κ p0 p1 p2 p3 p4 p5 K
def L93_0_s : Tr SC := Tr.of (nthD (.one .undef) [.one .undef, .one .str, .one .undef, .one .undef, .one (.ref 4 0), .one .undef, .one .undef, .one .undef, .one .undef, .one .undef, .one .undef, .one .undef, .one .undef, .one .undef, .one (.alias (.c 32 0)), .one (.int .i64), .one (.int .i64)]) 6
def L93_0_b : Tr (List SC) := Tr.of (nthD [] [[], [], [], [], [.one .str, .one (.list (.pair .str (.int .i64)) (.own false false))], [], [], [], [], [], [], [], [], [], [], [], [], [], [], [], [], [], [], [], [], [], [], [], [], [], [], [], [.one (.list (.pair .str (.list (.pair .str (.int .i64)))) (.own false false))]]) 6
def L93_0_m (g : ByteArray → Int → Int → ByteArray → (List (ByteArray × Int)) → T5 → (Int → Option Res) → Option Res) (lf : LoopF) : LoopF := fun p σ K => match pathEq p [true, true, false, true, false] with
  | true => match okSt 32 L93_0_s L93_0_b σ with
    | true => g (stringOf (Tr.val .undef (Tr.lft σ.slots))) (intOf (Tr.val .undef (Tr.lft (Tr.lft (Tr.lft (Tr.lft σ.slots)))))) (intOf (Tr.val .undef (Tr.lft (Tr.lft (Tr.lft (Tr.rgt σ.slots)))))) (stringOf (nth (Tr.val [] (Tr.lft (Tr.rgt σ.boxes))) 0)) (listOf (.pair .str (.int .i64)) (nth (Tr.val [] (Tr.lft (Tr.rgt σ.boxes))) 1)) (listOf (.pair .str (.list (.pair .str (.int .i64)))) (nth (Tr.val [] (Tr.lft (Tr.lft (Tr.lft (Tr.lft (Tr.rgt σ.boxes)))))) 0)) (fun v => K (.exit 0) ⟨32, Tr.of (nthD .undef [.undef, .str (stringOf (Tr.val .undef (Tr.lft σ.slots))), .undef, .undef, .ref 4 0, .undef, .undef, .undef, .undef, .undef, .undef, .undef, .undef, .undef, .alias (.c 32 0), .int .i64 (intOf (Tr.val .undef (Tr.lft (Tr.lft (Tr.lft (Tr.lft σ.slots)))))), .int .i64 v]) 6, Tr.of (nthD [] [[], [], [], [], [.str (stringOf (nth (Tr.val [] (Tr.lft (Tr.rgt σ.boxes))) 0)), .list (.pair .str (.int .i64)) (listOf (.pair .str (.int .i64)) (nth (Tr.val [] (Tr.lft (Tr.rgt σ.boxes))) 1)) (.own false false)], [], [], [], [], [], [], [], [], [], [], [], [], [], [], [], [], [], [], [], [], [], [], [], [], [], [], [], [.list (.pair .str (.list (.pair .str (.int .i64)))) (listOf (.pair .str (.list (.pair .str (.int .i64)))) (nth (Tr.val [] (Tr.lft (Tr.lft (Tr.lft (Tr.lft (Tr.rgt σ.boxes)))))) 0)) (.own false false)]]) 6⟩)
    | false => lf p σ K
  | false => lf p σ K
theorem L93_0_d (k : Nat) (κ : Res → Option Res) (h : ∀ (p0 : ByteArray) (p1 : Int) (p2 : Int) (p3 : ByteArray) (p4 : (List (ByteArray × Int))) (p5 : T5) (K : Cont), (ev Try.prog cfg k).loop 93 1 κ [true, true, false, true, false] ⟨32, Tr.of (nthD .undef [.undef, .str p0, .undef, .undef, .ref 4 0, .undef, .undef, .undef, .undef, .undef, .undef, .undef, .undef, .undef, .alias (.c 32 0), .int .i64 p1, .int .i64 p2]) 6, Tr.of (nthD [] [[], [], [], [], [.str p3, .list (.pair .str (.int .i64)) p4 (.own false false)], [], [], [], [], [], [], [], [], [], [], [], [], [], [], [], [], [], [], [], [], [], [], [], [], [], [], [], [.list (.pair .str (.list (.pair .str (.int .i64)))) p5 (.own false false)]]) 6⟩ K = L93_0 k (fun x => κ ((.tup [.agg [.str x.1.1, .list (.pair .str (.int .i64)) x.1.2 .no], .bool x.2.1], [[.list (.pair .str (.list (.pair .str (.int .i64)))) x.2.2 (.own false false)]]) : Res)) p0 p1 p2 p3 p4 p5 (fun v => K (.exit 0) ⟨32, Tr.of (nthD .undef [.undef, .str p0, .undef, .undef, .ref 4 0, .undef, .undef, .undef, .undef, .undef, .undef, .undef, .undef, .undef, .alias (.c 32 0), .int .i64 p1, .int .i64 v]) 6, Tr.of (nthD [] [[], [], [], [], [.str p3, .list (.pair .str (.int .i64)) p4 (.own false false)], [], [], [], [], [], [], [], [], [], [], [], [], [], [], [], [], [], [], [], [], [], [], [], [], [], [], [], [.list (.pair .str (.list (.pair .str (.int .i64)))) p5 (.own false false)]]) 6⟩)) : L93_0_m (L93_0 k (fun x => κ ((.tup [.agg [.str x.1.1, .list (.pair .str (.int .i64)) x.1.2 .no], .bool x.2.1], [[.list (.pair .str (.list (.pair .str (.int .i64)))) x.2.2 (.own false false)]]) : Res))) ((ev Try.prog cfg k).loop 93 1 κ) = (ev Try.prog cfg k).loop 93 1 κ := by
  funext p σ K
  unfold L93_0_m
  split
  · rename_i hp
    split
    · rename_i hs
      have e : mkSt 32 L93_0_s L93_0_b σ = ⟨32, Tr.of (nthD .undef [.undef, .str (stringOf (Tr.val .undef (Tr.lft σ.slots))), .undef, .undef, .ref 4 0, .undef, .undef, .undef, .undef, .undef, .undef, .undef, .undef, .undef, .alias (.c 32 0), .int .i64 (intOf (Tr.val .undef (Tr.lft (Tr.lft (Tr.lft (Tr.lft σ.slots)))))), .int .i64 (intOf (Tr.val .undef (Tr.lft (Tr.lft (Tr.lft (Tr.rgt σ.slots))))))]) 6, Tr.of (nthD [] [[], [], [], [], [.str (stringOf (nth (Tr.val [] (Tr.lft (Tr.rgt σ.boxes))) 0)), .list (.pair .str (.int .i64)) (listOf (.pair .str (.int .i64)) (nth (Tr.val [] (Tr.lft (Tr.rgt σ.boxes))) 1)) (.own false false)], [], [], [], [], [], [], [], [], [], [], [], [], [], [], [], [], [], [], [], [], [], [], [], [], [], [], [], [.list (.pair .str (.list (.pair .str (.int .i64)))) (listOf (.pair .str (.list (.pair .str (.int .i64)))) (nth (Tr.val [] (Tr.lft (Tr.lft (Tr.lft (Tr.lft (Tr.rgt σ.boxes)))))) 0)) (.own false false)]]) 6⟩ := by kernel_rfl
      rw [pathEq_eq hp]
      exact (h (stringOf (Tr.val .undef (Tr.lft σ.slots))) (intOf (Tr.val .undef (Tr.lft (Tr.lft (Tr.lft (Tr.lft σ.slots)))))) (intOf (Tr.val .undef (Tr.lft (Tr.lft (Tr.lft (Tr.rgt σ.slots)))))) (stringOf (nth (Tr.val [] (Tr.lft (Tr.rgt σ.boxes))) 0)) (listOf (.pair .str (.int .i64)) (nth (Tr.val [] (Tr.lft (Tr.rgt σ.boxes))) 1)) (listOf (.pair .str (.list (.pair .str (.int .i64)))) (nth (Tr.val [] (Tr.lft (Tr.lft (Tr.lft (Tr.lft (Tr.rgt σ.boxes)))))) 0)) K).symm.trans (congrArg (fun s => (ev Try.prog cfg k).loop 93 1 κ [true, true, false, true, false] s K) (e.symm.trans (okSt_eq hs).symm))
    · rfl
  · rfl
theorem L93_0_k (gL93_0 : tL93_0) (cf : CallF) (lf : LoopF) (κ : Res → Option Res) (p0 : ByteArray) (p1 : Int) (p2 : Int) (p3 : ByteArray) (p4 : (List (ByteArray × Int))) (p5 : T5) (K : Cont) : evLp Try.prog cfg cf (L93_0_m gL93_0 lf) 93 1 κ [true, true, false, true, false] ⟨32, Tr.of (nthD .undef [.undef, .str p0, .undef, .undef, .ref 4 0, .undef, .undef, .undef, .undef, .undef, .undef, .undef, .undef, .undef, .alias (.c 32 0), .int .i64 p1, .int .i64 p2]) 6, Tr.of (nthD [] [[], [], [], [], [.str p3, .list (.pair .str (.int .i64)) p4 (.own false false)], [], [], [], [], [], [], [], [], [], [], [], [], [], [], [], [], [], [], [], [], [], [], [], [], [], [], [], [.list (.pair .str (.list (.pair .str (.int .i64)))) p5 (.own false false)]]) 6⟩ K = L93_0_B gL93_0 (fun x => κ ((.tup [.agg [.str x.1.1, .list (.pair .str (.int .i64)) x.1.2 .no], .bool x.2.1], [[.list (.pair .str (.list (.pair .str (.int .i64)))) x.2.2 (.own false false)]]) : Res)) p0 p1 p2 p3 p4 p5 (fun v => K (.exit 0) ⟨32, Tr.of (nthD .undef [.undef, .str p0, .undef, .undef, .ref 4 0, .undef, .undef, .undef, .undef, .undef, .undef, .undef, .undef, .undef, .alias (.c 32 0), .int .i64 p1, .int .i64 v]) 6, Tr.of (nthD [] [[], [], [], [], [.str p3, .list (.pair .str (.int .i64)) p4 (.own false false)], [], [], [], [], [], [], [], [], [], [], [], [], [], [], [], [], [], [], [], [], [], [], [], [], [], [], [], [.list (.pair .str (.list (.pair .str (.int .i64)))) p5 (.own false false)]]) 6⟩) := by
  kernel_rfl
theorem L93_0_ev : ∀ (k : Nat) (κ : Res → Option Res) (p0 : ByteArray) (p1 : Int) (p2 : Int) (p3 : ByteArray) (p4 : (List (ByteArray × Int))) (p5 : T5) (K : Cont), (ev Try.prog cfg k).loop 93 1 κ [true, true, false, true, false] ⟨32, Tr.of (nthD .undef [.undef, .str p0, .undef, .undef, .ref 4 0, .undef, .undef, .undef, .undef, .undef, .undef, .undef, .undef, .undef, .alias (.c 32 0), .int .i64 p1, .int .i64 p2]) 6, Tr.of (nthD [] [[], [], [], [], [.str p3, .list (.pair .str (.int .i64)) p4 (.own false false)], [], [], [], [], [], [], [], [], [], [], [], [], [], [], [], [], [], [], [], [], [], [], [], [], [], [], [], [.list (.pair .str (.list (.pair .str (.int .i64)))) p5 (.own false false)]]) 6⟩ K = L93_0 k (fun x => κ ((.tup [.agg [.str x.1.1, .list (.pair .str (.int .i64)) x.1.2 .no], .bool x.2.1], [[.list (.pair .str (.list (.pair .str (.int .i64)))) x.2.2 (.own false false)]]) : Res)) p0 p1 p2 p3 p4 p5 (fun v => K (.exit 0) ⟨32, Tr.of (nthD .undef [.undef, .str p0, .undef, .undef, .ref 4 0, .undef, .undef, .undef, .undef, .undef, .undef, .undef, .undef, .undef, .alias (.c 32 0), .int .i64 p1, .int .i64 v]) 6, Tr.of (nthD [] [[], [], [], [], [.str p3, .list (.pair .str (.int .i64)) p4 (.own false false)], [], [], [], [], [], [], [], [], [], [], [], [], [], [], [], [], [], [], [], [], [], [], [], [], [], [], [], [.list (.pair .str (.list (.pair .str (.int .i64)))) p5 (.own false false)]]) 6⟩) := by
  intro k κ
  induction k with
  | zero => intro p0 p1 p2 p3 p4 p5 K; rfl
  | succ k ih =>
    intro p0 p1 p2 p3 p4 p5 K
    rw [ev_loop, ← L93_0_d k κ ih]
    exact L93_0_k _ _ _ κ p0 p1 p2 p3 p4 p5 K
def F93_B (gL93_0 : tL93_0) (a1 : ByteArray) (b0_0 : T5) (κ : T4 × Bool × T5 → Option Res) : Option Res :=
  chk2 (if false = true then
    (none)
   else
    (chk1 (gL93_0 a1 (b0_0.length : Int) (0 : Int) (⟨#[]⟩ : ByteArray) ([] : List (ByteArray × Int)) b0_0 fun v1 =>
     chk3 (κ (((⟨#[]⟩ : ByteArray), ([] : List (ByteArray × Int))), (false, b0_0))))))
/-- (*lamplighter/schema.Schema).Find -/
def F93 : Nat → ByteArray → T5 → (T4 × Bool × T5 → Option Res) → Option Res
  | 0, _, _, _ => none
  | k + 1, a1, b0_0, κ => F93_B (L93_0 k κ) a1 b0_0 κ
def F93_s : List SC := [.one (.ref 0 0), .one .str]
def F93_b : List (List SC) := [[.one (.list (.pair .str (.list (.pair .str (.int .i64)))) (.own false false))]]
def F93_m (g : ByteArray → T5 → (T4 × Bool × T5 → Option Res) → Option Res) (cf : CallF) : CallF := fun f args lent κ => match Nat.beq f 93 with
  | true => match okC F93_s args && okB F93_b lent with
    | true => g (stringOf (nth args 1)) (listOf (.pair .str (.list (.pair .str (.int .i64)))) (nth (nthB lent 0) 0)) (fun x => κ ((.tup [.agg [.str x.1.1, .list (.pair .str (.int .i64)) x.1.2 .no], .bool x.2.1], [[.list (.pair .str (.list (.pair .str (.int .i64)))) x.2.2 (.own false false)]]) : Res))
    | false => cf f args lent κ
  | false => cf f args lent κ
theorem F93_d (k : Nat) (h : ∀ (a1 : ByteArray) (b0_0 : T5) (κ : Res → Option Res), (ev Try.prog cfg k).call 93 [.ref 0 0, .str a1] [[.list (.pair .str (.list (.pair .str (.int .i64)))) b0_0 (.own false false)]] κ = F93 k a1 b0_0 (fun x => κ ((.tup [.agg [.str x.1.1, .list (.pair .str (.int .i64)) x.1.2 .no], .bool x.2.1], [[.list (.pair .str (.list (.pair .str (.int .i64)))) x.2.2 (.own false false)]]) : Res))) : F93_m (F93 k) (ev Try.prog cfg k).call = (ev Try.prog cfg k).call := by
  funext f args lent κ
  unfold F93_m
  split
  · rename_i hp
    split
    · rename_i hs
      rw [Bool.and_eq_true] at hs
      have e : mkC F93_s 0 args = [.ref 0 0, .str (stringOf (nth args 1))] := by kernel_rfl
      have e' : mkB F93_b 0 lent = [[.list (.pair .str (.list (.pair .str (.int .i64)))) (listOf (.pair .str (.list (.pair .str (.int .i64)))) (nth (nthB lent 0) 0)) (.own false false)]] := by kernel_rfl
      obtain rfl := Nat.eq_of_beq_eq_true hp
      exact (h (stringOf (nth args 1)) (listOf (.pair .str (.list (.pair .str (.int .i64)))) (nth (nthB lent 0) 0)) κ).symm.trans (cong2 (fun a l => (ev Try.prog cfg k).call 93 a l κ) (e.symm.trans (okC_eq hs.1).symm) (e'.symm.trans (okB_eq hs.2).symm))
    · rfl
  · rfl
theorem F93_k (gL93_0 : tL93_0) (cf : CallF) (lf : LoopF) (a1 : ByteArray) (b0_0 : T5) (κ : Res → Option Res) : evFn Try.prog cfg cf (L93_0_m gL93_0 lf) 93 [.ref 0 0, .str a1] [[.list (.pair .str (.list (.pair .str (.int .i64)))) b0_0 (.own false false)]] κ = F93_B gL93_0 a1 b0_0 (fun x => κ ((.tup [.agg [.str x.1.1, .list (.pair .str (.int .i64)) x.1.2 .no], .bool x.2.1], [[.list (.pair .str (.list (.pair .str (.int .i64)))) x.2.2 (.own false false)]]) : Res)) := by
  kernel_rfl
theorem F93_ev : ∀ (k : Nat) (a1 : ByteArray) (b0_0 : T5) (κ : Res → Option Res), (ev Try.prog cfg k).call 93 [.ref 0 0, .str a1] [[.list (.pair .str (.list (.pair .str (.int .i64)))) b0_0 (.own false false)]] κ = F93 k a1 b0_0 (fun x => κ ((.tup [.agg [.str x.1.1, .list (.pair .str (.int .i64)) x.1.2 .no], .bool x.2.1], [[.list (.pair .str (.list (.pair .str (.int .i64)))) x.2.2 (.own false false)]]) : Res)) := by
  intro k
  induction k with
  | zero => intros; rfl
  | succ k ih =>
    intro a1 b0_0 κ
    refine (ev_call' Try.prog cfg k 93 1 _ _ κ (by rfl)).trans ?_
    rw [← L93_0_d k κ (L93_0_ev k κ)]
    exact F93_k _ _ _ a1 b0_0 κ
def L39_0_B (gF91 : tF91) (gF92 : tF92) (gF93 : tF93) (gL39_0 : tL39_0) (κ : Int → Option Res) (κ1 : Int × T5 → Option Res) (p0 : T5) (p1 : Int) (p2 : Int) (p3 : T5) (K : Int × T5 → Option Res) : Option Res :=
  chk1 (if decide (p2 < p1) = true then
    (if (true && (decide ((0 : Int) ≤ p2) && decide (p2 < (p0.length : Int)))) = true then
     (chk4 (gF91 ((p0.getD p2.toNat ((⟨#[]⟩ : ByteArray), ([] : List (ByteArray × Int)))).1) fun x1 =>
      chk1 (if (!x1) = true then
        (chk1 (κ (1 : Int)))
       else
        (chk1 (gF92 ((p0.getD p2.toNat ((⟨#[]⟩ : ByteArray), ([] : List (ByteArray × Int)))).2) fun x2 =>
         chk1 (if (!x2) = true then
           (κ (1 : Int))
          else
           (chk1 (gF93 ((p0.getD p2.toNat ((⟨#[]⟩ : ByteArray), ([] : List (ByteArray × Int)))).1) p3 fun x3 =>
            chk4 (if x3.2.1 = true then
              (κ (4 : Int))
             else
              (if (true && (true && decide (((p0.getD p2.toNat ((⟨#[]⟩ : ByteArray), ([] : List (ByteArray × Int)))).2).length ≤ 1000000))) = true then chk6 (if decide ((x3.2.2.length + ([(p0.getD p2.toNat ((⟨#[]⟩ : ByteArray), ([] : List (ByteArray × Int))))] : List T4).length) * 40 ≤ 140737488355328) = true then chk3 (gL39_0 p0 p1 (IntKind.wrap .i64 (p2 + (1 : Int))) (x3.2.2 ++ ([(p0.getD p2.toNat ((⟨#[]⟩ : ByteArray), ([] : List (ByteArray × Int))))] : List T4)) K) else none) else none))))))))))
    else
     (none))
   else
    (K (p2, p3)))
def L39_0 : Nat → (Int → Option Res) → (Int × T5 → Option Res) → T5 → Int → Int → T5 → (Int × T5 → Option Res) → Option Res
  | 0, _, _, _, _, _, _, _ => none
  | k + 1, κ, κ1, p0, p1, p2, p3, K => L39_0_B (F91 k) (F92 k) (F93 k) (fun p0 p1 p2 p3 K => L39_0 k κ κ1 p0 p1 p2 p3 K) κ κ1 p0 p1 p2 p3 K
def L39_0_s : Tr SC := Tr.of (nthD (.one .undef) [.one .undef, .one .undef, .one .undef, .one .undef, .one (.ref 13 0), .one .undef, .one .undef, .one .undef, .one .undef, .one .undef, .one .undef, .one .undef, .one .undef, .one (.ref 13 0), .one (.list (.pair .str (.list (.pair .str (.int .i64)))) .no), .one (.int .i64), .one (.int .i64)]) 6
def L39_0_b : Tr (List SC) := Tr.of (nthD [] [[], [], [], [], [], [], [], [], [], [], [], [], [], [.one (.list (.pair .str (.list (.pair .str (.int .i64)))) (.own false false))]]) 6
def L39_0_m (g : T5 → Int → Int → T5 → (Int × T5 → Option Res) → Option Res) (lf : LoopF) : LoopF := fun p σ K => match pathEq p [true, true, true, false, true, false] with
  | true => match okSt 55 L39_0_s L39_0_b σ with
    | true => g (listOf (.pair .str (.list (.pair .str (.int .i64)))) (Tr.val .undef (Tr.rgt (Tr.rgt (Tr.rgt σ.slots))))) (intOf (Tr.val .undef (Tr.lft (Tr.lft (Tr.lft (Tr.lft σ.slots)))))) (intOf (Tr.val .undef (Tr.lft (Tr.lft (Tr.lft (Tr.rgt σ.slots)))))) (listOf (.pair .str (.list (.pair .str (.int .i64)))) (nth (Tr.val [] (Tr.rgt (Tr.rgt (Tr.lft σ.boxes)))) 0)) (fun v => K (.exit 0) ⟨55, Tr.of (nthD .undef [.undef, .undef, .undef, .undef, .ref 13 0, .undef, .undef, .undef, .undef, .undef, .undef, .undef, .undef, .ref 13 0, .list (.pair .str (.list (.pair .str (.int .i64)))) (listOf (.pair .str (.list (.pair .str (.int .i64)))) (Tr.val .undef (Tr.rgt (Tr.rgt (Tr.rgt σ.slots))))) .no, .int .i64 (intOf (Tr.val .undef (Tr.lft (Tr.lft (Tr.lft (Tr.lft σ.slots)))))), .int .i64 v.1]) 6, Tr.of (nthD [] [[], [], [], [], [], [], [], [], [], [], [], [], [], [.list (.pair .str (.list (.pair .str (.int .i64)))) v.2 (.own false false)]]) 6⟩)
    | false => lf p σ K
  | false => lf p σ K
theorem L39_0_d (k : Nat) (κ : Res → Option Res) (h : ∀ (p0 : T5) (p1 : Int) (p2 : Int) (p3 : T5) (K : Cont), (ev Try.prog cfg k).loop 39 0 κ [true, true, true, false, true, false] ⟨55, Tr.of (nthD .undef [.undef, .undef, .undef, .undef, .ref 13 0, .undef, .undef, .undef, .undef, .undef, .undef, .undef, .undef, .ref 13 0, .list (.pair .str (.list (.pair .str (.int .i64)))) p0 .no, .int .i64 p1, .int .i64 p2]) 6, Tr.of (nthD [] [[], [], [], [], [], [], [], [], [], [], [], [], [], [.list (.pair .str (.list (.pair .str (.int .i64)))) p3 (.own false false)]]) 6⟩ K = L39_0 k (fun x => κ ((.tup [.nilp, .int .i64 x], []) : Res)) (fun x => κ ((.tup [.ref 0 0, .int .i64 x.1], [[.list (.pair .str (.list (.pair .str (.int .i64)))) x.2 (.own false false)]]) : Res)) p0 p1 p2 p3 (fun v => K (.exit 0) ⟨55, Tr.of (nthD .undef [.undef, .undef, .undef, .undef, .ref 13 0, .undef, .undef, .undef, .undef, .undef, .undef, .undef, .undef, .ref 13 0, .list (.pair .str (.list (.pair .str (.int .i64)))) p0 .no, .int .i64 p1, .int .i64 v.1]) 6, Tr.of (nthD [] [[], [], [], [], [], [], [], [], [], [], [], [], [], [.list (.pair .str (.list (.pair .str (.int .i64)))) v.2 (.own false false)]]) 6⟩)) : L39_0_m (L39_0 k (fun x => κ ((.tup [.nilp, .int .i64 x], []) : Res)) (fun x => κ ((.tup [.ref 0 0, .int .i64 x.1], [[.list (.pair .str (.list (.pair .str (.int .i64)))) x.2 (.own false false)]]) : Res))) ((ev Try.prog cfg k).loop 39 0 κ) = (ev Try.prog cfg k).loop 39 0 κ := by
  funext p σ K
  unfold L39_0_m
  split
  · rename_i hp
    split
    · rename_i hs
      have e : mkSt 55 L39_0_s L39_0_b σ = ⟨55, Tr.of (nthD .undef [.undef, .undef, .undef, .undef, .ref 13 0, .undef, .undef, .undef, .undef, .undef, .undef, .undef, .undef, .ref 13 0, .list (.pair .str (.list (.pair .str (.int .i64)))) (listOf (.pair .str (.list (.pair .str (.int .i64)))) (Tr.val .undef (Tr.rgt (Tr.rgt (Tr.rgt σ.slots))))) .no, .int .i64 (intOf (Tr.val .undef (Tr.lft (Tr.lft (Tr.lft (Tr.lft σ.slots)))))), .int .i64 (intOf (Tr.val .undef (Tr.lft (Tr.lft (Tr.lft (Tr.rgt σ.slots))))))]) 6, Tr.of (nthD [] [[], [], [], [], [], [], [], [], [], [], [], [], [], [.list (.pair .str (.list (.pair .str (.int .i64)))) (listOf (.pair .str (.list (.pair .str (.int .i64)))) (nth (Tr.val [] (Tr.rgt (Tr.rgt (Tr.lft σ.boxes)))) 0)) (.own false false)]]) 6⟩ := by kernel_rfl
      rw [pathEq_eq hp]
      exact (h (listOf (.pair .str (.list (.pair .str (.int .i64)))) (Tr.val .undef (Tr.rgt (Tr.rgt (Tr.rgt σ.slots))))) (intOf (Tr.val .undef (Tr.lft (Tr.lft (Tr.lft (Tr.lft σ.slots)))))) (intOf (Tr.val .undef (Tr.lft (Tr.lft (Tr.lft (Tr.rgt σ.slots)))))) (listOf (.pair .str (.list (.pair .str (.int .i64)))) (nth (Tr.val [] (Tr.rgt (Tr.rgt (Tr.lft σ.boxes)))) 0)) K).symm.trans (congrArg (fun s => (ev Try.prog cfg k).loop 39 0 κ [true, true, true, false, true, false] s K) (e.symm.trans (okSt_eq hs).symm))
    · rfl
  · rfl
theorem L39_0_k (gF91 : tF91) (gF92 : tF92) (gF93 : tF93) (gL39_0 : tL39_0) (cf : CallF) (lf : LoopF) (κ : Res → Option Res) (p0 : T5) (p1 : Int) (p2 : Int) (p3 : T5) (K : Cont) : evLp Try.prog cfg (F91_m gF91 (F92_m gF92 (F93_m gF93 cf))) (L39_0_m gL39_0 lf) 39 0 κ [true, true, true, false, true, false] ⟨55, Tr.of (nthD .undef [.undef, .undef, .undef, .undef, .ref 13 0, .undef, .undef, .undef, .undef, .undef, .undef, .undef, .undef, .ref 13 0, .list (.pair .str (.list (.pair .str (.int .i64)))) p0 .no, .int .i64 p1, .int .i64 p2]) 6, Tr.of (nthD [] [[], [], [], [], [], [], [], [], [], [], [], [], [], [.list (.pair .str (.list (.pair .str (.int .i64)))) p3 (.own false false)]]) 6⟩ K = L39_0_B gF91 gF92 gF93 gL39_0 (fun x => κ ((.tup [.nilp, .int .i64 x], []) : Res)) (fun x => κ ((.tup [.ref 0 0, .int .i64 x.1], [[.list (.pair .str (.list (.pair .str (.int .i64)))) x.2 (.own false false)]]) : Res)) p0 p1 p2 p3 (fun v => K (.exit 0) ⟨55, Tr.of (nthD .undef [.undef, .undef, .undef, .undef, .ref 13 0, .undef, .undef, .undef, .undef, .undef, .undef, .undef, .undef, .ref 13 0, .list (.pair .str (.list (.pair .str (.int .i64)))) p0 .no, .int .i64 p1, .int .i64 v.1]) 6, Tr.of (nthD [] [[], [], [], [], [], [], [], [], [], [], [], [], [], [.list (.pair .str (.list (.pair .str (.int .i64)))) v.2 (.own false false)]]) 6⟩) := by
  kernel_rfl
theorem L39_0_ev : ∀ (k : Nat) (κ : Res → Option Res) (p0 : T5) (p1 : Int) (p2 : Int) (p3 : T5) (K : Cont), (ev Try.prog cfg k).loop 39 0 κ [true, true, true, false, true, false] ⟨55, Tr.of (nthD .undef [.undef, .undef, .undef, .undef, .ref 13 0, .undef, .undef, .undef, .undef, .undef, .undef, .undef, .undef, .ref 13 0, .list (.pair .str (.list (.pair .str (.int .i64)))) p0 .no, .int .i64 p1, .int .i64 p2]) 6, Tr.of (nthD [] [[], [], [], [], [], [], [], [], [], [], [], [], [], [.list (.pair .str (.list (.pair .str (.int .i64)))) p3 (.own false false)]]) 6⟩ K = L39_0 k (fun x => κ ((.tup [.nilp, .int .i64 x], []) : Res)) (fun x => κ ((.tup [.ref 0 0, .int .i64 x.1], [[.list (.pair .str (.list (.pair .str (.int .i64)))) x.2 (.own false false)]]) : Res)) p0 p1 p2 p3 (fun v => K (.exit 0) ⟨55, Tr.of (nthD .undef [.undef, .undef, .undef, .undef, .ref 13 0, .undef, .undef, .undef, .undef, .undef, .undef, .undef, .undef, .ref 13 0, .list (.pair .str (.list (.pair .str (.int .i64)))) p0 .no, .int .i64 p1, .int .i64 v.1]) 6, Tr.of (nthD [] [[], [], [], [], [], [], [], [], [], [], [], [], [], [.list (.pair .str (.list (.pair .str (.int .i64)))) v.2 (.own false false)]]) 6⟩) := by
  intro k κ
  induction k with
  | zero => intro p0 p1 p2 p3 K; rfl
  | succ k ih =>
    intro p0 p1 p2 p3 K
    rw [ev_loop, ← F91_d k (F91_ev k), ← F92_d k (F92_ev k), ← F93_d k (F93_ev k), ← L39_0_d k κ ih]
    exact L39_0_k _ _ _ _ _ _ κ p0 p1 p2 p3 K
def F39_B (gF91 : tF91) (gF92 : tF92) (gF93 : tF93) (gL39_0 : tL39_0) (a0 : T5) (κ : Int → Option Res) (κ1 : Int × T5 → Option Res) : Option Res :=
  chk2 (if decide ((a0.length : Int) > (16 : Int)) = true then
    (κ (5 : Int))
   else
    (chk3 (gL39_0 a0 (a0.length : Int) (0 : Int) ([] : List T4) fun v4 =>
     κ1 ((0 : Int), v4.2))))
/-- lamplighter/schema.New -/
def F39 : Nat → T5 → (Int → Option Res) → (Int × T5 → Option Res) → Option Res
  | 0, _, _, _ => none
  | k + 1, a0, κ, κ1 => F39_B (F91 k) (F92 k) (F93 k) (L39_0 k κ κ1) a0 κ κ1
def F39_s : List SC := [.one (.list (.pair .str (.list (.pair .str (.int .i64)))) .no)]
def F39_b : List (List SC) := []
def F39_m (g : T5 → (Int → Option Res) → (Int × T5 → Option Res) → Option Res) (cf : CallF) : CallF := fun f args lent κ => match Nat.beq f 39 with
  | true => match okC F39_s args && okB F39_b lent with
    | true => g (listOf (.pair .str (.list (.pair .str (.int .i64)))) (nth args 0)) (fun x => κ ((.tup [.nilp, .int .i64 x], []) : Res)) (fun x => κ ((.tup [.ref 0 0, .int .i64 x.1], [[.list (.pair .str (.list (.pair .str (.int .i64)))) x.2 (.own false false)]]) : Res))
    | false => cf f args lent κ
  | false => cf f args lent κ
theorem F39_d (k : Nat) (h : ∀ (a0 : T5) (κ : Res → Option Res), (ev Try.prog cfg k).call 39 [.list (.pair .str (.list (.pair .str (.int .i64)))) a0 .no] [] κ = F39 k a0 (fun x => κ ((.tup [.nilp, .int .i64 x], []) : Res)) (fun x => κ ((.tup [.ref 0 0, .int .i64 x.1], [[.list (.pair .str (.list (.pair .str (.int .i64)))) x.2 (.own false false)]]) : Res))) : F39_m (F39 k) (ev Try.prog cfg k).call = (ev Try.prog cfg k).call := by
  funext f args lent κ
  unfold F39_m
  split
  · rename_i hp
    split
    · rename_i hs
      rw [Bool.and_eq_true] at hs
      have e : mkC F39_s 0 args = [.list (.pair .str (.list (.pair .str (.int .i64)))) (listOf (.pair .str (.list (.pair .str (.int .i64)))) (nth args 0)) .no] := by kernel_rfl
      have e' : mkB F39_b 0 lent = [] := by kernel_rfl
      obtain rfl := Nat.eq_of_beq_eq_true hp
      exact (h (listOf (.pair .str (.list (.pair .str (.int .i64)))) (nth args 0)) κ).symm.trans (cong2 (fun a l => (ev Try.prog cfg k).call 39 a l κ) (e.symm.trans (okC_eq hs.1).symm) (e'.symm.trans (okB_eq hs.2).symm))
    · rfl
  · rfl
theorem F39_k (gF91 : tF91) (gF92 : tF92) (gF93 : tF93) (gL39_0 : tL39_0) (cf : CallF) (lf : LoopF) (a0 : T5) (κ : Res → Option Res) : evFn Try.prog cfg (F91_m gF91 (F92_m gF92 (F93_m gF93 cf))) (L39_0_m gL39_0 lf) 39 [.list (.pair .str (.list (.pair .str (.int .i64)))) a0 .no] [] κ = F39_B gF91 gF92 gF93 gL39_0 a0 (fun x => κ ((.tup [.nilp, .int .i64 x], []) : Res)) (fun x => κ ((.tup [.ref 0 0, .int .i64 x.1], [[.list (.pair .str (.list (.pair .str (.int .i64)))) x.2 (.own false false)]]) : Res)) := by
  kernel_rfl
theorem F39_ev : ∀ (k : Nat) (a0 : T5) (κ : Res → Option Res), (ev Try.prog cfg k).call 39 [.list (.pair .str (.list (.pair .str (.int .i64)))) a0 .no] [] κ = F39 k a0 (fun x => κ ((.tup [.nilp, .int .i64 x], []) : Res)) (fun x => κ ((.tup [.ref 0 0, .int .i64 x.1], [[.list (.pair .str (.list (.pair .str (.int .i64)))) x.2 (.own false false)]]) : Res)) := by
  intro k
  induction k with
  | zero => intros; rfl
  | succ k ih =>
    intro a0 κ
    refine (ev_call' Try.prog cfg k 39 0 _ _ κ (by rfl)).trans ?_
    rw [← F91_d k (F91_ev k), ← F92_d k (F92_ev k), ← F93_d k (F93_ev k), ← L39_0_d k κ (L39_0_ev k κ)]
    exact F39_k _ _ _ _ _ _ a0 κ
def F42_B (gF42 : tF42) (a0 : (List Int)) (a1 : Int) (a2 : Int) (κ : T8 × Int → Option Res) : Option Res :=
  chk2 (if decide (a1 < (a0.length : Int)) = true then
    (if (true && (decide ((0 : Int) ≤ a1) && decide (a1 < (a0.length : Int)))) = true then
     (chk3 (if (a2 == (0 : Int)) = true then
       (chk3 (if ((Int.tmod (bits .and .i64 (a0.getD a1.toNat (0 : Int)) (65535 : Int)) (6 : Int)) == (0 : Int)) = true then
         (chk8 (chk3 (κ (([((1 : Int), (((1 : Int), ((IntKind.wrap .i64 ((bits .and .i64 (Int.fdiv (bits .and .i64 (a0.getD a1.toNat (0 : Int)) (65535 : Int)) (2 ^ min ((4 : Int)).toNat (IntKind.bits .i64))) (31 : Int)) - (8 : Int))), ((⟨#[]⟩ : ByteArray), false))), ((⟨#[]⟩ : ByteArray), (⟨#[]⟩ : ByteArray))))] : List T7), (IntKind.wrap .i64 (a1 + (1 : Int)))))))
        else
         (chk6 (if (true && (decide ((0 : Int) ≤ (Int.tmod (Int.fdiv (bits .and .i64 (a0.getD a1.toNat (0 : Int)) (65535 : Int)) (2 ^ min ((4 : Int)).toNat (IntKind.bits .i64))) (3 : Int))) && decide ((Int.tmod (Int.fdiv (bits .and .i64 (a0.getD a1.toNat (0 : Int)) (65535 : Int)) (2 ^ min ((4 : Int)).toNat (IntKind.bits .i64))) (3 : Int)) < (([(⟨#[97]⟩ : ByteArray), (⟨#[98]⟩ : ByteArray), (⟨#[99]⟩ : ByteArray)] : List ByteArray).length : Int)))) = true then chk6 (κ (([((2 : Int), (((0 : Int), ((0 : Int), ((⟨#[]⟩ : ByteArray), false))), ((([(⟨#[97]⟩ : ByteArray), (⟨#[98]⟩ : ByteArray), (⟨#[99]⟩ : ByteArray)] : List ByteArray).getD (Int.tmod (Int.fdiv (bits .and .i64 (a0.getD a1.toNat (0 : Int)) (65535 : Int)) (2 ^ min ((4 : Int)).toNat (IntKind.bits .i64))) (3 : Int)).toNat (⟨#[]⟩ : ByteArray)), (⟨#[120]⟩ : ByteArray))))] : List T7), (IntKind.wrap .i64 (a1 + (1 : Int))))) else none))))
      else
       (chk2 (if decide ((Int.tmod (bits .and .i64 (a0.getD a1.toNat (0 : Int)) (65535 : Int)) (6 : Int)) < (2 : Int)) = true then
         (chk2 (if ((Int.tmod (bits .and .i64 (a0.getD a1.toNat (0 : Int)) (65535 : Int)) (6 : Int)) == (0 : Int)) = true then
           (chk8 (chk3 (κ (([((1 : Int), (((1 : Int), ((IntKind.wrap .i64 ((bits .and .i64 (Int.fdiv (bits .and .i64 (a0.getD a1.toNat (0 : Int)) (65535 : Int)) (2 ^ min ((4 : Int)).toNat (IntKind.bits .i64))) (31 : Int)) - (8 : Int))), ((⟨#[]⟩ : ByteArray), false))), ((⟨#[]⟩ : ByteArray), (⟨#[]⟩ : ByteArray))))] : List T7), (IntKind.wrap .i64 (a1 + (1 : Int)))))))
          else
           (chk6 (if (true && (decide ((0 : Int) ≤ (Int.tmod (Int.fdiv (bits .and .i64 (a0.getD a1.toNat (0 : Int)) (65535 : Int)) (2 ^ min ((4 : Int)).toNat (IntKind.bits .i64))) (3 : Int))) && decide ((Int.tmod (Int.fdiv (bits .and .i64 (a0.getD a1.toNat (0 : Int)) (65535 : Int)) (2 ^ min ((4 : Int)).toNat (IntKind.bits .i64))) (3 : Int)) < (([(⟨#[97]⟩ : ByteArray), (⟨#[98]⟩ : ByteArray), (⟨#[99]⟩ : ByteArray)] : List ByteArray).length : Int)))) = true then chk6 (κ (([((2 : Int), (((0 : Int), ((0 : Int), ((⟨#[]⟩ : ByteArray), false))), ((([(⟨#[97]⟩ : ByteArray), (⟨#[98]⟩ : ByteArray), (⟨#[99]⟩ : ByteArray)] : List ByteArray).getD (Int.tmod (Int.fdiv (bits .and .i64 (a0.getD a1.toNat (0 : Int)) (65535 : Int)) (2 ^ min ((4 : Int)).toNat (IntKind.bits .i64))) (3 : Int)).toNat (⟨#[]⟩ : ByteArray)), (⟨#[120]⟩ : ByteArray))))] : List T7), (IntKind.wrap .i64 (a1 + (1 : Int))))) else none))))
        else
         (chk2 (gF42 a0 (IntKind.wrap .i64 (a1 + (1 : Int))) (IntKind.wrap .i64 (a2 - (1 : Int))) fun x1 =>
          chk3 (if ((Int.tmod (bits .and .i64 (a0.getD a1.toNat (0 : Int)) (65535 : Int)) (6 : Int)) == (5 : Int)) = true then
            (chk5 (if decide ((x1.1.length + ([((3 : Int), (((0 : Int), ((0 : Int), ((⟨#[]⟩ : ByteArray), false))), ((⟨#[]⟩ : ByteArray), (⟨#[]⟩ : ByteArray))))] : List T7).length) * 80 ≤ 140737488355328) = true then κ ((x1.1 ++ ([((3 : Int), (((0 : Int), ((0 : Int), ((⟨#[]⟩ : ByteArray), false))), ((⟨#[]⟩ : ByteArray), (⟨#[]⟩ : ByteArray))))] : List T7)), x1.2) else none))
           else
            (chk2 (gF42 a0 x1.2 (IntKind.wrap .i64 (a2 - (1 : Int))) fun x2 =>
             chk2 (if decide ((x1.1.length + x2.1.length) * 80 ≤ 140737488355328) = true then chk8 (if decide (((x1.1 ++ x2.1).length + ([((IntKind.wrap .i64 ((4 : Int) + (Int.tmod (Int.fdiv (bits .and .i64 (a0.getD a1.toNat (0 : Int)) (65535 : Int)) (2 ^ min ((4 : Int)).toNat (IntKind.bits .i64))) (3 : Int)))), (((0 : Int), ((0 : Int), ((⟨#[]⟩ : ByteArray), false))), ((⟨#[]⟩ : ByteArray), (⟨#[]⟩ : ByteArray))))] : List T7).length) * 80 ≤ 140737488355328) = true then κ (((x1.1 ++ x2.1) ++ ([((IntKind.wrap .i64 ((4 : Int) + (Int.tmod (Int.fdiv (bits .and .i64 (a0.getD a1.toNat (0 : Int)) (65535 : Int)) (2 ^ min ((4 : Int)).toNat (IntKind.bits .i64))) (3 : Int)))), (((0 : Int), ((0 : Int), ((⟨#[]⟩ : ByteArray), false))), ((⟨#[]⟩ : ByteArray), (⟨#[]⟩ : ByteArray))))] : List T7)), x2.2) else none) else none))))))))))
    else
     (none))
   else
    (chk2 (if (a2 == (0 : Int)) = true then
      (chk3 (if ((Int.tmod (0 : Int) (6 : Int)) == (0 : Int)) = true then
        (chk8 (chk3 (κ (([((1 : Int), (((1 : Int), ((IntKind.wrap .i64 ((bits .and .i64 (Int.fdiv (0 : Int) (2 ^ min ((4 : Int)).toNat (IntKind.bits .i64))) (31 : Int)) - (8 : Int))), ((⟨#[]⟩ : ByteArray), false))), ((⟨#[]⟩ : ByteArray), (⟨#[]⟩ : ByteArray))))] : List T7), (IntKind.wrap .i64 (a1 + (1 : Int)))))))
       else
        (chk6 (if (true && (decide ((0 : Int) ≤ (Int.tmod (Int.fdiv (0 : Int) (2 ^ min ((4 : Int)).toNat (IntKind.bits .i64))) (3 : Int))) && decide ((Int.tmod (Int.fdiv (0 : Int) (2 ^ min ((4 : Int)).toNat (IntKind.bits .i64))) (3 : Int)) < (([(⟨#[97]⟩ : ByteArray), (⟨#[98]⟩ : ByteArray), (⟨#[99]⟩ : ByteArray)] : List ByteArray).length : Int)))) = true then chk6 (κ (([((2 : Int), (((0 : Int), ((0 : Int), ((⟨#[]⟩ : ByteArray), false))), ((([(⟨#[97]⟩ : ByteArray), (⟨#[98]⟩ : ByteArray), (⟨#[99]⟩ : ByteArray)] : List ByteArray).getD (Int.tmod (Int.fdiv (0 : Int) (2 ^ min ((4 : Int)).toNat (IntKind.bits .i64))) (3 : Int)).toNat (⟨#[]⟩ : ByteArray)), (⟨#[120]⟩ : ByteArray))))] : List T7), (IntKind.wrap .i64 (a1 + (1 : Int))))) else none))))
     else
      (chk2 (if decide ((Int.tmod (0 : Int) (6 : Int)) < (2 : Int)) = true then
        (chk2 (if ((Int.tmod (0 : Int) (6 : Int)) == (0 : Int)) = true then
          (chk8 (chk3 (κ (([((1 : Int), (((1 : Int), ((IntKind.wrap .i64 ((bits .and .i64 (Int.fdiv (0 : Int) (2 ^ min ((4 : Int)).toNat (IntKind.bits .i64))) (31 : Int)) - (8 : Int))), ((⟨#[]⟩ : ByteArray), false))), ((⟨#[]⟩ : ByteArray), (⟨#[]⟩ : ByteArray))))] : List T7), (IntKind.wrap .i64 (a1 + (1 : Int)))))))
         else
          (chk6 (if (true && (decide ((0 : Int) ≤ (Int.tmod (Int.fdiv (0 : Int) (2 ^ min ((4 : Int)).toNat (IntKind.bits .i64))) (3 : Int))) && decide ((Int.tmod (Int.fdiv (0 : Int) (2 ^ min ((4 : Int)).toNat (IntKind.bits .i64))) (3 : Int)) < (([(⟨#[97]⟩ : ByteArray), (⟨#[98]⟩ : ByteArray), (⟨#[99]⟩ : ByteArray)] : List ByteArray).length : Int)))) = true then chk6 (κ (([((2 : Int), (((0 : Int), ((0 : Int), ((⟨#[]⟩ : ByteArray), false))), ((([(⟨#[97]⟩ : ByteArray), (⟨#[98]⟩ : ByteArray), (⟨#[99]⟩ : ByteArray)] : List ByteArray).getD (Int.tmod (Int.fdiv (0 : Int) (2 ^ min ((4 : Int)).toNat (IntKind.bits .i64))) (3 : Int)).toNat (⟨#[]⟩ : ByteArray)), (⟨#[120]⟩ : ByteArray))))] : List T7), (IntKind.wrap .i64 (a1 + (1 : Int))))) else none))))
       else
        (chk2 (gF42 a0 (IntKind.wrap .i64 (a1 + (1 : Int))) (IntKind.wrap .i64 (a2 - (1 : Int))) fun x3 =>
         chk3 (if ((Int.tmod (0 : Int) (6 : Int)) == (5 : Int)) = true then
           (chk5 (if decide ((x3.1.length + ([((3 : Int), (((0 : Int), ((0 : Int), ((⟨#[]⟩ : ByteArray), false))), ((⟨#[]⟩ : ByteArray), (⟨#[]⟩ : ByteArray))))] : List T7).length) * 80 ≤ 140737488355328) = true then κ ((x3.1 ++ ([((3 : Int), (((0 : Int), ((0 : Int), ((⟨#[]⟩ : ByteArray), false))), ((⟨#[]⟩ : ByteArray), (⟨#[]⟩ : ByteArray))))] : List T7)), x3.2) else none))
          else
           (chk2 (gF42 a0 x3.2 (IntKind.wrap .i64 (a2 - (1 : Int))) fun x4 =>
            chk2 (if decide ((x3.1.length + x4.1.length) * 80 ≤ 140737488355328) = true then chk8 (if decide (((x3.1 ++ x4.1).length + ([((IntKind.wrap .i64 ((4 : Int) + (Int.tmod (Int.fdiv (0 : Int) (2 ^ min ((4 : Int)).toNat (IntKind.bits .i64))) (3 : Int)))), (((0 : Int), ((0 : Int), ((⟨#[]⟩ : ByteArray), false))), ((⟨#[]⟩ : ByteArray), (⟨#[]⟩ : ByteArray))))] : List T7).length) * 80 ≤ 140737488355328) = true then κ (((x3.1 ++ x4.1) ++ ([((IntKind.wrap .i64 ((4 : Int) + (Int.tmod (Int.fdiv (0 : Int) (2 ^ min ((4 : Int)).toNat (IntKind.bits .i64))) (3 : Int)))), (((0 : Int), ((0 : Int), ((⟨#[]⟩ : ByteArray), false))), ((⟨#[]⟩ : ByteArray), (⟨#[]⟩ : ByteArray))))] : List T7)), x4.2) else none) else none)))))))))))
/-- lamplighter/lamplighterref11.Number -/
def F42 : Nat → (List Int) → Int → Int → (T8 × Int → Option Res) → Option Res
  | 0, _, _, _, _ => none
  | k + 1, a0, a1, a2, κ => F42_B (fun a0 a1 a2 κ => F42 k a0 a1 a2 κ) a0 a1 a2 κ
def F42_s : List SC := [.one (.list (.int .i64) .no), .one (.int .i64), .one (.int .i64)]
def F42_b : List (List SC) := []
def F42_m (g : (List Int) → Int → Int → (T8 × Int → Option Res) → Option Res) (cf : CallF) : CallF := fun f args lent κ => match Nat.beq f 42 with
  | true => match okC F42_s args && okB F42_b lent with
    | true => g (listOf (.int .i64) (nth args 0)) (intOf (nth args 1)) (intOf (nth args 2)) (fun x => κ ((.tup [.list (.pair (.int .i64) (.pair (.pair (.int .i64) (.pair (.int .i64) (.pair .str .bool))) (.pair .str .str))) x.1 (.own false false), .int .i64 x.2], []) : Res))
    | false => cf f args lent κ
  | false => cf f args lent κ
theorem F42_d (k : Nat) (h : ∀ (a0 : (List Int)) (a1 : Int) (a2 : Int) (κ : Res → Option Res), (ev Try.prog cfg k).call 42 [.list (.int .i64) a0 .no, .int .i64 a1, .int .i64 a2] [] κ = F42 k a0 a1 a2 (fun x => κ ((.tup [.list (.pair (.int .i64) (.pair (.pair (.int .i64) (.pair (.int .i64) (.pair .str .bool))) (.pair .str .str))) x.1 (.own false false), .int .i64 x.2], []) : Res))) : F42_m (F42 k) (ev Try.prog cfg k).call = (ev Try.prog cfg k).call := by
  funext f args lent κ
  unfold F42_m
  split
  · rename_i hp
    split
    · rename_i hs
      rw [Bool.and_eq_true] at hs
      have e : mkC F42_s 0 args = [.list (.int .i64) (listOf (.int .i64) (nth args 0)) .no, .int .i64 (intOf (nth args 1)), .int .i64 (intOf (nth args 2))] := by kernel_rfl
      have e' : mkB F42_b 0 lent = [] := by kernel_rfl
      obtain rfl := Nat.eq_of_beq_eq_true hp
      exact (h (listOf (.int .i64) (nth args 0)) (intOf (nth args 1)) (intOf (nth args 2)) κ).symm.trans (cong2 (fun a l => (ev Try.prog cfg k).call 42 a l κ) (e.symm.trans (okC_eq hs.1).symm) (e'.symm.trans (okB_eq hs.2).symm))
    · rfl
  · rfl
theorem F42_k (gF42 : tF42) (cf : CallF) (lf : LoopF) (a0 : (List Int)) (a1 : Int) (a2 : Int) (κ : Res → Option Res) : evFn Try.prog cfg (F42_m gF42 cf) lf 42 [.list (.int .i64) a0 .no, .int .i64 a1, .int .i64 a2] [] κ = F42_B gF42 a0 a1 a2 (fun x => κ ((.tup [.list (.pair (.int .i64) (.pair (.pair (.int .i64) (.pair (.int .i64) (.pair .str .bool))) (.pair .str .str))) x.1 (.own false false), .int .i64 x.2], []) : Res)) := by
  kernel_rfl
theorem F42_ev : ∀ (k : Nat) (a0 : (List Int)) (a1 : Int) (a2 : Int) (κ : Res → Option Res), (ev Try.prog cfg k).call 42 [.list (.int .i64) a0 .no, .int .i64 a1, .int .i64 a2] [] κ = F42 k a0 a1 a2 (fun x => κ ((.tup [.list (.pair (.int .i64) (.pair (.pair (.int .i64) (.pair (.int .i64) (.pair .str .bool))) (.pair .str .str))) x.1 (.own false false), .int .i64 x.2], []) : Res)) := by
  intro k
  induction k with
  | zero => intros; rfl
  | succ k ih =>
    intro a0 a1 a2 κ
    refine (ev_call' Try.prog cfg k 42 0 _ _ κ (by rfl)).trans ?_
    rw [← F42_d k ih]
    exact F42_k _ _ _ a0 a1 a2 κ
def F41_B (gF42 : tF42) (gF41 : tF41) (a0 : (List Int)) (a1 : Int) (a2 : Int) (κ : T8 × Int → Option Res) : Option Res :=
  chk2 (if decide (a1 < (a0.length : Int)) = true then
    (if (true && (decide ((0 : Int) ≤ a1) && decide (a1 < (a0.length : Int)))) = true then
     (chk4 (if ((Int.tmod (bits .and .i64 (a0.getD a1.toNat (0 : Int)) (65535 : Int)) (7 : Int)) == (6 : Int)) = true then
       (chk8 (chk3 (κ (([((1 : Int), (((3 : Int), ((0 : Int), ((⟨#[]⟩ : ByteArray), decide ((bits .and .i64 (Int.fdiv (bits .and .i64 (a0.getD a1.toNat (0 : Int)) (65535 : Int)) (2 ^ min ((4 : Int)).toNat (IntKind.bits .i64))) (1 : Int)) > (0 : Int))))), ((⟨#[]⟩ : ByteArray), (⟨#[]⟩ : ByteArray))))] : List T7), (IntKind.wrap .i64 (a1 + (1 : Int)))))))
      else
       (chk2 (if ((Int.tmod (bits .and .i64 (a0.getD a1.toNat (0 : Int)) (65535 : Int)) (7 : Int)) == (5 : Int)) = true then
         (chk6 (if (true && (decide ((0 : Int) ≤ (Int.tmod (Int.fdiv (bits .and .i64 (a0.getD a1.toNat (0 : Int)) (65535 : Int)) (2 ^ min ((4 : Int)).toNat (IntKind.bits .i64))) (3 : Int))) && decide ((Int.tmod (Int.fdiv (bits .and .i64 (a0.getD a1.toNat (0 : Int)) (65535 : Int)) (2 ^ min ((4 : Int)).toNat (IntKind.bits .i64))) (3 : Int)) < (([(⟨#[97]⟩ : ByteArray), (⟨#[98]⟩ : ByteArray), (⟨#[99]⟩ : ByteArray)] : List ByteArray).length : Int)))) = true then chk8 (chk2 (if (true && (decide ((0 : Int) ≤ (Int.tmod (Int.fdiv (bits .and .i64 (a0.getD a1.toNat (0 : Int)) (65535 : Int)) (2 ^ min ((6 : Int)).toNat (IntKind.bits .i64))) (3 : Int))) && decide ((Int.tmod (Int.fdiv (bits .and .i64 (a0.getD a1.toNat (0 : Int)) (65535 : Int)) (2 ^ min ((6 : Int)).toNat (IntKind.bits .i64))) (3 : Int)) < (([(⟨#[117]⟩ : ByteArray), (⟨#[118]⟩ : ByteArray), (⟨#[105, 116, 39, 115]⟩ : ByteArray)] : List ByteArray).length : Int)))) = true then chk8 (chk7 (κ (([((2 : Int), (((0 : Int), ((0 : Int), ((⟨#[]⟩ : ByteArray), false))), ((([(⟨#[97]⟩ : ByteArray), (⟨#[98]⟩ : ByteArray), (⟨#[99]⟩ : ByteArray)] : List ByteArray).getD (Int.tmod (Int.fdiv (bits .and .i64 (a0.getD a1.toNat (0 : Int)) (65535 : Int)) (2 ^ min ((4 : Int)).toNat (IntKind.bits .i64))) (3 : Int)).toNat (⟨#[]⟩ : ByteArray)), (⟨#[115]⟩ : ByteArray)))), ((1 : Int), (((2 : Int), ((0 : Int), ((([(⟨#[117]⟩ : ByteArray), (⟨#[118]⟩ : ByteArray), (⟨#[105, 116, 39, 115]⟩ : ByteArray)] : List ByteArray).getD (Int.tmod (Int.fdiv (bits .and .i64 (a0.getD a1.toNat (0 : Int)) (65535 : Int)) (2 ^ min ((6 : Int)).toNat (IntKind.bits .i64))) (3 : Int)).toNat (⟨#[]⟩ : ByteArray)), false))), ((⟨#[]⟩ : ByteArray), (⟨#[]⟩ : ByteArray)))), ((IntKind.wrap .i64 ((7 : Int) + (Int.tmod (Int.fdiv (bits .and .i64 (a0.getD a1.toNat (0 : Int)) (65535 : Int)) (2 ^ min ((8 : Int)).toNat (IntKind.bits .i64))) (6 : Int)))), (((0 : Int), ((0 : Int), ((⟨#[]⟩ : ByteArray), false))), ((⟨#[]⟩ : ByteArray), (⟨#[]⟩ : ByteArray))))] : List T7), (IntKind.wrap .i64 (a1 + (1 : Int)))))) else none)) else none))
        else
         (chk1 (if (a2 == (0 : Int)) = true then
           (chk2 (gF42 a0 (IntKind.wrap .i64 (a1 + (1 : Int))) (imin a2 (2 : Int)) fun x1 =>
            chk2 (gF42 a0 x1.2 (imin a2 (2 : Int)) fun x2 =>
             chk2 (if decide ((x1.1.length + x2.1.length) * 80 ≤ 140737488355328) = true then chk8 (if decide (((x1.1 ++ x2.1).length + ([((IntKind.wrap .i64 ((7 : Int) + (Int.tmod (Int.fdiv (bits .and .i64 (a0.getD a1.toNat (0 : Int)) (65535 : Int)) (2 ^ min ((4 : Int)).toNat (IntKind.bits .i64))) (6 : Int)))), (((0 : Int), ((0 : Int), ((⟨#[]⟩ : ByteArray), false))), ((⟨#[]⟩ : ByteArray), (⟨#[]⟩ : ByteArray))))] : List T7).length) * 80 ≤ 140737488355328) = true then κ (((x1.1 ++ x2.1) ++ ([((IntKind.wrap .i64 ((7 : Int) + (Int.tmod (Int.fdiv (bits .and .i64 (a0.getD a1.toNat (0 : Int)) (65535 : Int)) (2 ^ min ((4 : Int)).toNat (IntKind.bits .i64))) (6 : Int)))), (((0 : Int), ((0 : Int), ((⟨#[]⟩ : ByteArray), false))), ((⟨#[]⟩ : ByteArray), (⟨#[]⟩ : ByteArray))))] : List T7)), x2.2) else none) else none))))
          else
           (chk2 (if decide ((Int.tmod (bits .and .i64 (a0.getD a1.toNat (0 : Int)) (65535 : Int)) (7 : Int)) < (2 : Int)) = true then
             (chk1 (gF42 a0 (IntKind.wrap .i64 (a1 + (1 : Int))) (imin a2 (2 : Int)) fun x3 =>
              chk2 (gF42 a0 x3.2 (imin a2 (2 : Int)) fun x4 =>
               chk2 (if decide ((x3.1.length + x4.1.length) * 80 ≤ 140737488355328) = true then chk8 (if decide (((x3.1 ++ x4.1).length + ([((IntKind.wrap .i64 ((7 : Int) + (Int.tmod (Int.fdiv (bits .and .i64 (a0.getD a1.toNat (0 : Int)) (65535 : Int)) (2 ^ min ((4 : Int)).toNat (IntKind.bits .i64))) (6 : Int)))), (((0 : Int), ((0 : Int), ((⟨#[]⟩ : ByteArray), false))), ((⟨#[]⟩ : ByteArray), (⟨#[]⟩ : ByteArray))))] : List T7).length) * 80 ≤ 140737488355328) = true then κ (((x3.1 ++ x4.1) ++ ([((IntKind.wrap .i64 ((7 : Int) + (Int.tmod (Int.fdiv (bits .and .i64 (a0.getD a1.toNat (0 : Int)) (65535 : Int)) (2 ^ min ((4 : Int)).toNat (IntKind.bits .i64))) (6 : Int)))), (((0 : Int), ((0 : Int), ((⟨#[]⟩ : ByteArray), false))), ((⟨#[]⟩ : ByteArray), (⟨#[]⟩ : ByteArray))))] : List T7)), x4.2) else none) else none))))
            else
             (chk2 (if ((Int.tmod (bits .and .i64 (a0.getD a1.toNat (0 : Int)) (65535 : Int)) (7 : Int)) == (2 : Int)) = true then
               (chk2 (gF41 a0 (IntKind.wrap .i64 (a1 + (1 : Int))) (IntKind.wrap .i64 (a2 - (1 : Int))) fun x5 =>
                chk6 (if decide ((x5.1.length + ([((13 : Int), (((0 : Int), ((0 : Int), ((⟨#[]⟩ : ByteArray), false))), ((⟨#[]⟩ : ByteArray), (⟨#[]⟩ : ByteArray))))] : List T7).length) * 80 ≤ 140737488355328) = true then κ ((x5.1 ++ ([((13 : Int), (((0 : Int), ((0 : Int), ((⟨#[]⟩ : ByteArray), false))), ((⟨#[]⟩ : ByteArray), (⟨#[]⟩ : ByteArray))))] : List T7)), x5.2) else none)))
              else
               (chk2 (gF41 a0 (IntKind.wrap .i64 (a1 + (1 : Int))) (IntKind.wrap .i64 (a2 - (1 : Int))) fun x6 =>
                chk3 (gF41 a0 x6.2 (IntKind.wrap .i64 (a2 - (1 : Int))) fun x7 =>
                 chk2 (if decide ((x6.1.length + x7.1.length) * 80 ≤ 140737488355328) = true then chk8 (if decide (((x6.1 ++ x7.1).length + ([((IntKind.wrap .i64 ((14 : Int) + (bits .and .i64 (Int.fdiv (bits .and .i64 (a0.getD a1.toNat (0 : Int)) (65535 : Int)) (2 ^ min ((4 : Int)).toNat (IntKind.bits .i64))) (1 : Int)))), (((0 : Int), ((0 : Int), ((⟨#[]⟩ : ByteArray), false))), ((⟨#[]⟩ : ByteArray), (⟨#[]⟩ : ByteArray))))] : List T7).length) * 80 ≤ 140737488355328) = true then κ (((x6.1 ++ x7.1) ++ ([((IntKind.wrap .i64 ((14 : Int) + (bits .and .i64 (Int.fdiv (bits .and .i64 (a0.getD a1.toNat (0 : Int)) (65535 : Int)) (2 ^ min ((4 : Int)).toNat (IntKind.bits .i64))) (1 : Int)))), (((0 : Int), ((0 : Int), ((⟨#[]⟩ : ByteArray), false))), ((⟨#[]⟩ : ByteArray), (⟨#[]⟩ : ByteArray))))] : List T7)), x7.2) else none) else none))))))))))))))
    else
     (none))
   else
    (chk3 (if ((Int.tmod (0 : Int) (7 : Int)) == (6 : Int)) = true then
      (chk8 (chk3 (κ (([((1 : Int), (((3 : Int), ((0 : Int), ((⟨#[]⟩ : ByteArray), decide ((bits .and .i64 (Int.fdiv (0 : Int) (2 ^ min ((4 : Int)).toNat (IntKind.bits .i64))) (1 : Int)) > (0 : Int))))), ((⟨#[]⟩ : ByteArray), (⟨#[]⟩ : ByteArray))))] : List T7), (IntKind.wrap .i64 (a1 + (1 : Int)))))))
     else
      (chk2 (if ((Int.tmod (0 : Int) (7 : Int)) == (5 : Int)) = true then
        (chk6 (if (true && (decide ((0 : Int) ≤ (Int.tmod (Int.fdiv (0 : Int) (2 ^ min ((4 : Int)).toNat (IntKind.bits .i64))) (3 : Int))) && decide ((Int.tmod (Int.fdiv (0 : Int) (2 ^ min ((4 : Int)).toNat (IntKind.bits .i64))) (3 : Int)) < (([(⟨#[97]⟩ : ByteArray), (⟨#[98]⟩ : ByteArray), (⟨#[99]⟩ : ByteArray)] : List ByteArray).length : Int)))) = true then chk8 (chk2 (if (true && (decide ((0 : Int) ≤ (Int.tmod (Int.fdiv (0 : Int) (2 ^ min ((6 : Int)).toNat (IntKind.bits .i64))) (3 : Int))) && decide ((Int.tmod (Int.fdiv (0 : Int) (2 ^ min ((6 : Int)).toNat (IntKind.bits .i64))) (3 : Int)) < (([(⟨#[117]⟩ : ByteArray), (⟨#[118]⟩ : ByteArray), (⟨#[105, 116, 39, 115]⟩ : ByteArray)] : List ByteArray).length : Int)))) = true then chk8 (chk7 (κ (([((2 : Int), (((0 : Int), ((0 : Int), ((⟨#[]⟩ : ByteArray), false))), ((([(⟨#[97]⟩ : ByteArray), (⟨#[98]⟩ : ByteArray), (⟨#[99]⟩ : ByteArray)] : List ByteArray).getD (Int.tmod (Int.fdiv (0 : Int) (2 ^ min ((4 : Int)).toNat (IntKind.bits .i64))) (3 : Int)).toNat (⟨#[]⟩ : ByteArray)), (⟨#[115]⟩ : ByteArray)))), ((1 : Int), (((2 : Int), ((0 : Int), ((([(⟨#[117]⟩ : ByteArray), (⟨#[118]⟩ : ByteArray), (⟨#[105, 116, 39, 115]⟩ : ByteArray)] : List ByteArray).getD (Int.tmod (Int.fdiv (0 : Int) (2 ^ min ((6 : Int)).toNat (IntKind.bits .i64))) (3 : Int)).toNat (⟨#[]⟩ : ByteArray)), false))), ((⟨#[]⟩ : ByteArray), (⟨#[]⟩ : ByteArray)))), ((IntKind.wrap .i64 ((7 : Int) + (Int.tmod (Int.fdiv (0 : Int) (2 ^ min ((8 : Int)).toNat (IntKind.bits .i64))) (6 : Int)))), (((0 : Int), ((0 : Int), ((⟨#[]⟩ : ByteArray), false))), ((⟨#[]⟩ : ByteArray), (⟨#[]⟩ : ByteArray))))] : List T7), (IntKind.wrap .i64 (a1 + (1 : Int)))))) else none)) else none))
       else
        (chk1 (if (a2 == (0 : Int)) = true then
          (chk2 (gF42 a0 (IntKind.wrap .i64 (a1 + (1 : Int))) (imin a2 (2 : Int)) fun x8 =>
           chk2 (gF42 a0 x8.2 (imin a2 (2 : Int)) fun x9 =>
            chk2 (if decide ((x8.1.length + x9.1.length) * 80 ≤ 140737488355328) = true then chk8 (if decide (((x8.1 ++ x9.1).length + ([((IntKind.wrap .i64 ((7 : Int) + (Int.tmod (Int.fdiv (0 : Int) (2 ^ min ((4 : Int)).toNat (IntKind.bits .i64))) (6 : Int)))), (((0 : Int), ((0 : Int), ((⟨#[]⟩ : ByteArray), false))), ((⟨#[]⟩ : ByteArray), (⟨#[]⟩ : ByteArray))))] : List T7).length) * 80 ≤ 140737488355328) = true then κ (((x8.1 ++ x9.1) ++ ([((IntKind.wrap .i64 ((7 : Int) + (Int.tmod (Int.fdiv (0 : Int) (2 ^ min ((4 : Int)).toNat (IntKind.bits .i64))) (6 : Int)))), (((0 : Int), ((0 : Int), ((⟨#[]⟩ : ByteArray), false))), ((⟨#[]⟩ : ByteArray), (⟨#[]⟩ : ByteArray))))] : List T7)), x9.2) else none) else none))))
         else
          (chk2 (if decide ((Int.tmod (0 : Int) (7 : Int)) < (2 : Int)) = true then
            (chk1 (gF42 a0 (IntKind.wrap .i64 (a1 + (1 : Int))) (imin a2 (2 : Int)) fun x10 =>
             chk2 (gF42 a0 x10.2 (imin a2 (2 : Int)) fun x11 =>
              chk2 (if decide ((x10.1.length + x11.1.length) * 80 ≤ 140737488355328) = true then chk8 (if decide (((x10.1 ++ x11.1).length + ([((IntKind.wrap .i64 ((7 : Int) + (Int.tmod (Int.fdiv (0 : Int) (2 ^ min ((4 : Int)).toNat (IntKind.bits .i64))) (6 : Int)))), (((0 : Int), ((0 : Int), ((⟨#[]⟩ : ByteArray), false))), ((⟨#[]⟩ : ByteArray), (⟨#[]⟩ : ByteArray))))] : List T7).length) * 80 ≤ 140737488355328) = true then κ (((x10.1 ++ x11.1) ++ ([((IntKind.wrap .i64 ((7 : Int) + (Int.tmod (Int.fdiv (0 : Int) (2 ^ min ((4 : Int)).toNat (IntKind.bits .i64))) (6 : Int)))), (((0 : Int), ((0 : Int), ((⟨#[]⟩ : ByteArray), false))), ((⟨#[]⟩ : ByteArray), (⟨#[]⟩ : ByteArray))))] : List T7)), x11.2) else none) else none))))
           else
            (chk2 (if ((Int.tmod (0 : Int) (7 : Int)) == (2 : Int)) = true then
              (chk2 (gF41 a0 (IntKind.wrap .i64 (a1 + (1 : Int))) (IntKind.wrap .i64 (a2 - (1 : Int))) fun x12 =>
               chk6 (if decide ((x12.1.length + ([((13 : Int), (((0 : Int), ((0 : Int), ((⟨#[]⟩ : ByteArray), false))), ((⟨#[]⟩ : ByteArray), (⟨#[]⟩ : ByteArray))))] : List T7).length) * 80 ≤ 140737488355328) = true then κ ((x12.1 ++ ([((13 : Int), (((0 : Int), ((0 : Int), ((⟨#[]⟩ : ByteArray), false))), ((⟨#[]⟩ : ByteArray), (⟨#[]⟩ : ByteArray))))] : List T7)), x12.2) else none)))
             else
              (chk2 (gF41 a0 (IntKind.wrap .i64 (a1 + (1 : Int))) (IntKind.wrap .i64 (a2 - (1 : Int))) fun x13 =>
               chk3 (gF41 a0 x13.2 (IntKind.wrap .i64 (a2 - (1 : Int))) fun x14 =>
                chk2 (if decide ((x13.1.length + x14.1.length) * 80 ≤ 140737488355328) = true then chk8 (if decide (((x13.1 ++ x14.1).length + ([((IntKind.wrap .i64 ((14 : Int) + (bits .and .i64 (Int.fdiv (0 : Int) (2 ^ min ((4 : Int)).toNat (IntKind.bits .i64))) (1 : Int)))), (((0 : Int), ((0 : Int), ((⟨#[]⟩ : ByteArray), false))), ((⟨#[]⟩ : ByteArray), (⟨#[]⟩ : ByteArray))))] : List T7).length) * 80 ≤ 140737488355328) = true then κ (((x13.1 ++ x14.1) ++ ([((IntKind.wrap .i64 ((14 : Int) + (bits .and .i64 (Int.fdiv (0 : Int) (2 ^ min ((4 : Int)).toNat (IntKind.bits .i64))) (1 : Int)))), (((0 : Int), ((0 : Int), ((⟨#[]⟩ : ByteArray), false))), ((⟨#[]⟩ : ByteArray), (⟨#[]⟩ : ByteArray))))] : List T7)), x14.2) else none) else none)))))))))))))))
/-- lamplighter/lamplighterref11.Truth -/
def F41 : Nat → (List Int) → Int → Int → (T8 × Int → Option Res) → Option Res
  | 0, _, _, _, _ => none
  | k + 1, a0, a1, a2, κ => F41_B (F42 k) (fun a0 a1 a2 κ => F41 k a0 a1 a2 κ) a0 a1 a2 κ
def F41_s : List SC := [.one (.list (.int .i64) .no), .one (.int .i64), .one (.int .i64)]
def F41_b : List (List SC) := []
def F41_m (g : (List Int) → Int → Int → (T8 × Int → Option Res) → Option Res) (cf : CallF) : CallF := fun f args lent κ => match Nat.beq f 41 with
  | true => match okC F41_s args && okB F41_b lent with
    | true => g (listOf (.int .i64) (nth args 0)) (intOf (nth args 1)) (intOf (nth args 2)) (fun x => κ ((.tup [.list (.pair (.int .i64) (.pair (.pair (.int .i64) (.pair (.int .i64) (.pair .str .bool))) (.pair .str .str))) x.1 (.own false false), .int .i64 x.2], []) : Res))
    | false => cf f args lent κ
  | false => cf f args lent κ
theorem F41_d (k : Nat) (h : ∀ (a0 : (List Int)) (a1 : Int) (a2 : Int) (κ : Res → Option Res), (ev Try.prog cfg k).call 41 [.list (.int .i64) a0 .no, .int .i64 a1, .int .i64 a2] [] κ = F41 k a0 a1 a2 (fun x => κ ((.tup [.list (.pair (.int .i64) (.pair (.pair (.int .i64) (.pair (.int .i64) (.pair .str .bool))) (.pair .str .str))) x.1 (.own false false), .int .i64 x.2], []) : Res))) : F41_m (F41 k) (ev Try.prog cfg k).call = (ev Try.prog cfg k).call := by
  funext f args lent κ
  unfold F41_m
  split
  · rename_i hp
    split
    · rename_i hs
      rw [Bool.and_eq_true] at hs
      have e : mkC F41_s 0 args = [.list (.int .i64) (listOf (.int .i64) (nth args 0)) .no, .int .i64 (intOf (nth args 1)), .int .i64 (intOf (nth args 2))] := by kernel_rfl
      have e' : mkB F41_b 0 lent = [] := by kernel_rfl
      obtain rfl := Nat.eq_of_beq_eq_true hp
      exact (h (listOf (.int .i64) (nth args 0)) (intOf (nth args 1)) (intOf (nth args 2)) κ).symm.trans (cong2 (fun a l => (ev Try.prog cfg k).call 41 a l κ) (e.symm.trans (okC_eq hs.1).symm) (e'.symm.trans (okB_eq hs.2).symm))
    · rfl
  · rfl
theorem F41_k (gF42 : tF42) (gF41 : tF41) (cf : CallF) (lf : LoopF) (a0 : (List Int)) (a1 : Int) (a2 : Int) (κ : Res → Option Res) : evFn Try.prog cfg (F42_m gF42 (F41_m gF41 cf)) lf 41 [.list (.int .i64) a0 .no, .int .i64 a1, .int .i64 a2] [] κ = F41_B gF42 gF41 a0 a1 a2 (fun x => κ ((.tup [.list (.pair (.int .i64) (.pair (.pair (.int .i64) (.pair (.int .i64) (.pair .str .bool))) (.pair .str .str))) x.1 (.own false false), .int .i64 x.2], []) : Res)) := by
  kernel_rfl
theorem F41_ev : ∀ (k : Nat) (a0 : (List Int)) (a1 : Int) (a2 : Int) (κ : Res → Option Res), (ev Try.prog cfg k).call 41 [.list (.int .i64) a0 .no, .int .i64 a1, .int .i64 a2] [] κ = F41 k a0 a1 a2 (fun x => κ ((.tup [.list (.pair (.int .i64) (.pair (.pair (.int .i64) (.pair (.int .i64) (.pair .str .bool))) (.pair .str .str))) x.1 (.own false false), .int .i64 x.2], []) : Res)) := by
  intro k
  induction k with
  | zero => intros; rfl
  | succ k ih =>
    intro a0 a1 a2 κ
    refine (ev_call' Try.prog cfg k 41 0 _ _ κ (by rfl)).trans ?_
    rw [← F42_d k (F42_ev k), ← F41_d k ih]
    exact F41_k _ _ _ _ a0 a1 a2 κ
def F44_B  (a0 : Int) (κ : T3 → Option Res) : Option Res :=
  chk8 (chk8 (chk1 (if (true && (decide ((0 : Int) ≤ (bits .and .i64 a0 (3 : Int))) && decide ((bits .and .i64 a0 (3 : Int)) < (([([(⟨#[65]⟩ : ByteArray)] : List ByteArray), ([(⟨#[65]⟩ : ByteArray), (⟨#[66]⟩ : ByteArray)] : List ByteArray), ([(⟨#[67]⟩ : ByteArray), (⟨#[65]⟩ : ByteArray)] : List ByteArray), ([(⟨#[66]⟩ : ByteArray), (⟨#[67]⟩ : ByteArray)] : List ByteArray)] : List (List ByteArray)).length : Int)))) = true then if decide ((bits .and .i64 a0 (3 : Int)).toNat < ([([(⟨#[65]⟩ : ByteArray)] : List ByteArray), ([(⟨#[65]⟩ : ByteArray), (⟨#[66]⟩ : ByteArray)] : List ByteArray), ([(⟨#[67]⟩ : ByteArray), (⟨#[65]⟩ : ByteArray)] : List ByteArray), ([(⟨#[66]⟩ : ByteArray), (⟨#[67]⟩ : ByteArray)] : List ByteArray)] : List (List ByteArray)).length) = true then chk5 (if (true && (decide ((0 : Int) ≤ (bits .and .i64 (Int.fdiv a0 (2 ^ min ((2 : Int)).toNat (IntKind.bits .i64))) (3 : Int))) && decide ((bits .and .i64 (Int.fdiv a0 (2 ^ min ((2 : Int)).toNat (IntKind.bits .i64))) (3 : Int)) < (([([(⟨#[65]⟩ : ByteArray)] : List ByteArray), ([(⟨#[65]⟩ : ByteArray), (⟨#[66]⟩ : ByteArray)] : List ByteArray), ([(⟨#[67]⟩ : ByteArray), (⟨#[65]⟩ : ByteArray)] : List ByteArray), ([(⟨#[66]⟩ : ByteArray), (⟨#[67]⟩ : ByteArray)] : List ByteArray)] : List (List ByteArray)).length : Int)))) = true then if decide ((bits .and .i64 (Int.fdiv a0 (2 ^ min ((2 : Int)).toNat (IntKind.bits .i64))) (3 : Int)).toNat < ([([(⟨#[65]⟩ : ByteArray)] : List ByteArray), ([(⟨#[65]⟩ : ByteArray), (⟨#[66]⟩ : ByteArray)] : List ByteArray), ([(⟨#[67]⟩ : ByteArray), (⟨#[65]⟩ : ByteArray)] : List ByteArray), ([(⟨#[66]⟩ : ByteArray), (⟨#[67]⟩ : ByteArray)] : List ByteArray)] : List (List ByteArray)).length) = true then chk5 (if (true && (decide ((0 : Int) ≤ (bits .and .i64 (Int.fdiv a0 (2 ^ min ((4 : Int)).toNat (IntKind.bits .i64))) (3 : Int))) && decide ((bits .and .i64 (Int.fdiv a0 (2 ^ min ((4 : Int)).toNat (IntKind.bits .i64))) (3 : Int)) < (([([(⟨#[65]⟩ : ByteArray)] : List ByteArray), ([(⟨#[65]⟩ : ByteArray), (⟨#[66]⟩ : ByteArray)] : List ByteArray), ([(⟨#[67]⟩ : ByteArray), (⟨#[65]⟩ : ByteArray)] : List ByteArray), ([(⟨#[66]⟩ : ByteArray), (⟨#[67]⟩ : ByteArray)] : List ByteArray)] : List (List ByteArray)).length : Int)))) = true then if decide ((bits .and .i64 (Int.fdiv a0 (2 ^ min ((4 : Int)).toNat (IntKind.bits .i64))) (3 : Int)).toNat < ([([(⟨#[65]⟩ : ByteArray)] : List ByteArray), ([(⟨#[65]⟩ : ByteArray), (⟨#[66]⟩ : ByteArray)] : List ByteArray), ([(⟨#[67]⟩ : ByteArray), (⟨#[65]⟩ : ByteArray)] : List ByteArray), ([(⟨#[66]⟩ : ByteArray), (⟨#[67]⟩ : ByteArray)] : List ByteArray)] : List (List ByteArray)).length) = true then chk7 (κ ([((⟨#[97]⟩ : ByteArray), (([([(⟨#[65]⟩ : ByteArray)] : List ByteArray), ([(⟨#[65]⟩ : ByteArray), (⟨#[66]⟩ : ByteArray)] : List ByteArray), ([(⟨#[67]⟩ : ByteArray), (⟨#[65]⟩ : ByteArray)] : List ByteArray), ([(⟨#[66]⟩ : ByteArray), (⟨#[67]⟩ : ByteArray)] : List ByteArray)] : List (List ByteArray)).getD ((bits .and .i64 a0 (3 : Int)).toNat) ([] : List ByteArray))), ((⟨#[98]⟩ : ByteArray), (([([(⟨#[65]⟩ : ByteArray)] : List ByteArray), ([(⟨#[65]⟩ : ByteArray), (⟨#[66]⟩ : ByteArray)] : List ByteArray), ([(⟨#[67]⟩ : ByteArray), (⟨#[65]⟩ : ByteArray)] : List ByteArray), ([(⟨#[66]⟩ : ByteArray), (⟨#[67]⟩ : ByteArray)] : List ByteArray)] : List (List ByteArray)).getD ((bits .and .i64 (Int.fdiv a0 (2 ^ min ((2 : Int)).toNat (IntKind.bits .i64))) (3 : Int)).toNat) ([] : List ByteArray))), ((⟨#[99]⟩ : ByteArray), (([([(⟨#[65]⟩ : ByteArray)] : List ByteArray), ([(⟨#[65]⟩ : ByteArray), (⟨#[66]⟩ : ByteArray)] : List ByteArray), ([(⟨#[67]⟩ : ByteArray), (⟨#[65]⟩ : ByteArray)] : List ByteArray), ([(⟨#[66]⟩ : ByteArray), (⟨#[67]⟩ : ByteArray)] : List ByteArray)] : List (List ByteArray)).getD ((bits .and .i64 (Int.fdiv a0 (2 ^ min ((4 : Int)).toNat (IntKind.bits .i64))) (3 : Int)).toNat) ([] : List ByteArray)))] : List T1)) else none else none) else none else none) else none else none)))
/-- lamplighter/lamplighterlaw13.scope -/
def F44 : Nat → Int → (T3 → Option Res) → Option Res
  | 0, _, _ => none
  | k + 1, a0, κ => F44_B  a0 κ
def F44_s : List SC := [.one (.int .i64)]
def F44_b : List (List SC) := []
def F44_m (g : Int → (T3 → Option Res) → Option Res) (cf : CallF) : CallF := fun f args lent κ => match Nat.beq f 44 with
  | true => match okC F44_s args && okB F44_b lent with
    | true => g (intOf (nth args 0)) (fun x => κ ((.list (.pair .str (.list .str)) x (.own false false), []) : Res))
    | false => cf f args lent κ
  | false => cf f args lent κ
theorem F44_d (k : Nat) (h : ∀ (a0 : Int) (κ : Res → Option Res), (ev Try.prog cfg k).call 44 [.int .i64 a0] [] κ = F44 k a0 (fun x => κ ((.list (.pair .str (.list .str)) x (.own false false), []) : Res))) : F44_m (F44 k) (ev Try.prog cfg k).call = (ev Try.prog cfg k).call := by
  funext f args lent κ
  unfold F44_m
  split
  · rename_i hp
    split
    · rename_i hs
      rw [Bool.and_eq_true] at hs
      have e : mkC F44_s 0 args = [.int .i64 (intOf (nth args 0))] := by kernel_rfl
      have e' : mkB F44_b 0 lent = [] := by kernel_rfl
      obtain rfl := Nat.eq_of_beq_eq_true hp
      exact (h (intOf (nth args 0)) κ).symm.trans (cong2 (fun a l => (ev Try.prog cfg k).call 44 a l κ) (e.symm.trans (okC_eq hs.1).symm) (e'.symm.trans (okB_eq hs.2).symm))
    · rfl
  · rfl
theorem F44_k  (cf : CallF) (lf : LoopF) (a0 : Int) (κ : Res → Option Res) : evFn Try.prog cfg cf lf 44 [.int .i64 a0] [] κ = F44_B  a0 (fun x => κ ((.list (.pair .str (.list .str)) x (.own false false), []) : Res)) := by
  kernel_rfl
theorem F44_ev : ∀ (k : Nat) (a0 : Int) (κ : Res → Option Res), (ev Try.prog cfg k).call 44 [.int .i64 a0] [] κ = F44 k a0 (fun x => κ ((.list (.pair .str (.list .str)) x (.own false false), []) : Res)) := by
  intro k
  induction k with
  | zero => intros; rfl
  | succ k ih =>
    intro a0 κ
    refine (ev_call' Try.prog cfg k 44 0 _ _ κ (by rfl)).trans ?_
    skip
    exact F44_k  _ _ a0 κ
def F96_B  (a0 : Int) (κ : Int → Option Res) : Option Res :=
  chk1 (if (a0 == (1 : Int)) = true then
    (chk1 (κ (0 : Int)))
   else
    (chk1 (if (a0 == (2 : Int)) = true then
      (κ (0 : Int))
     else
      (chk1 (if (a0 == (3 : Int)) = true then
        (chk1 (κ (1 : Int)))
       else
        (chk1 (if (a0 == (13 : Int)) = true then
          (κ (1 : Int))
         else
          (chk1 (if decide (a0 ≥ (4 : Int)) = true then
            (chk1 (if decide (a0 ≤ (15 : Int)) = true then
              (κ (2 : Int))
             else
              (κ (-1 : Int))))
           else
            (if false = true then
             (none)
            else
             (κ (-1 : Int))))))))))))
/-- lamplighter/term.Parts -/
def F96 : Nat → Int → (Int → Option Res) → Option Res
  | 0, _, _ => none
  | k + 1, a0, κ => F96_B  a0 κ
def F96_s : List SC := [.one (.int .i64)]
def F96_b : List (List SC) := []
def F96_m (g : Int → (Int → Option Res) → Option Res) (cf : CallF) : CallF := fun f args lent κ => match Nat.beq f 96 with
  | true => match okC F96_s args && okB F96_b lent with
    | true => g (intOf (nth args 0)) (fun x => κ ((.int .i64 x, []) : Res))
    | false => cf f args lent κ
  | false => cf f args lent κ
theorem F96_d (k : Nat) (h : ∀ (a0 : Int) (κ : Res → Option Res), (ev Try.prog cfg k).call 96 [.int .i64 a0] [] κ = F96 k a0 (fun x => κ ((.int .i64 x, []) : Res))) : F96_m (F96 k) (ev Try.prog cfg k).call = (ev Try.prog cfg k).call := by
  funext f args lent κ
  unfold F96_m
  split
  · rename_i hp
    split
    · rename_i hs
      rw [Bool.and_eq_true] at hs
      have e : mkC F96_s 0 args = [.int .i64 (intOf (nth args 0))] := by kernel_rfl
      have e' : mkB F96_b 0 lent = [] := by kernel_rfl
      obtain rfl := Nat.eq_of_beq_eq_true hp
      exact (h (intOf (nth args 0)) κ).symm.trans (cong2 (fun a l => (ev Try.prog cfg k).call 96 a l κ) (e.symm.trans (okC_eq hs.1).symm) (e'.symm.trans (okB_eq hs.2).symm))
    · rfl
  · rfl
theorem F96_k  (cf : CallF) (lf : LoopF) (a0 : Int) (κ : Res → Option Res) : evFn Try.prog cfg cf lf 96 [.int .i64 a0] [] κ = F96_B  a0 (fun x => κ ((.int .i64 x, []) : Res)) := by
  kernel_rfl
theorem F96_ev : ∀ (k : Nat) (a0 : Int) (κ : Res → Option Res), (ev Try.prog cfg k).call 96 [.int .i64 a0] [] κ = F96 k a0 (fun x => κ ((.int .i64 x, []) : Res)) := by
  intro k
  induction k with
  | zero => intros; rfl
  | succ k ih =>
    intro a0 κ
    refine (ev_call' Try.prog cfg k 96 0 _ _ κ (by rfl)).trans ?_
    skip
    exact F96_k  _ _ a0 κ
def F182_B  (a0 : Int) (κ : T2 → Option Res) : Option Res :=
  chk6 (κ ((1 : Int), (a0, ((⟨#[]⟩ : ByteArray), false))))
/-- lamplighter/value.Num -/
def F182 : Nat → Int → (T2 → Option Res) → Option Res
  | 0, _, _ => none
  | k + 1, a0, κ => F182_B  a0 κ
def F182_s : List SC := [.one (.int .i64)]
def F182_b : List (List SC) := []
def F182_m (g : Int → (T2 → Option Res) → Option Res) (cf : CallF) : CallF := fun f args lent κ => match Nat.beq f 182 with
  | true => match okC F182_s args && okB F182_b lent with
    | true => g (intOf (nth args 0)) (fun x => κ ((.agg [.int .i64 x.1, .int .i64 x.2.1, .str x.2.2.1, .bool x.2.2.2], []) : Res))
    | false => cf f args lent κ
  | false => cf f args lent κ
theorem F182_d (k : Nat) (h : ∀ (a0 : Int) (κ : Res → Option Res), (ev Try.prog cfg k).call 182 [.int .i64 a0] [] κ = F182 k a0 (fun x => κ ((.agg [.int .i64 x.1, .int .i64 x.2.1, .str x.2.2.1, .bool x.2.2.2], []) : Res))) : F182_m (F182 k) (ev Try.prog cfg k).call = (ev Try.prog cfg k).call := by
  funext f args lent κ
  unfold F182_m
  split
  · rename_i hp
    split
    · rename_i hs
      rw [Bool.and_eq_true] at hs
      have e : mkC F182_s 0 args = [.int .i64 (intOf (nth args 0))] := by kernel_rfl
      have e' : mkB F182_b 0 lent = [] := by kernel_rfl
      obtain rfl := Nat.eq_of_beq_eq_true hp
      exact (h (intOf (nth args 0)) κ).symm.trans (cong2 (fun a l => (ev Try.prog cfg k).call 182 a l κ) (e.symm.trans (okC_eq hs.1).symm) (e'.symm.trans (okB_eq hs.2).symm))
    · rfl
  · rfl
theorem F182_k  (cf : CallF) (lf : LoopF) (a0 : Int) (κ : Res → Option Res) : evFn Try.prog cfg cf lf 182 [.int .i64 a0] [] κ = F182_B  a0 (fun x => κ ((.agg [.int .i64 x.1, .int .i64 x.2.1, .str x.2.2.1, .bool x.2.2.2], []) : Res)) := by
  kernel_rfl
theorem F182_ev : ∀ (k : Nat) (a0 : Int) (κ : Res → Option Res), (ev Try.prog cfg k).call 182 [.int .i64 a0] [] κ = F182 k a0 (fun x => κ ((.agg [.int .i64 x.1, .int .i64 x.2.1, .str x.2.2.1, .bool x.2.2.2], []) : Res)) := by
  intro k
  induction k with
  | zero => intros; rfl
  | succ k ih =>
    intro a0 κ
    refine (ev_call' Try.prog cfg k 182 0 _ _ κ (by rfl)).trans ?_
    skip
    exact F182_k  _ _ a0 κ
def F183_B  (a0 : ByteArray) (κ : T2 → Option Res) : Option Res :=
  chk6 (κ ((2 : Int), ((0 : Int), (a0, false))))
/-- lamplighter/value.Text -/
def F183 : Nat → ByteArray → (T2 → Option Res) → Option Res
  | 0, _, _ => none
  | k + 1, a0, κ => F183_B  a0 κ
def F183_s : List SC := [.one .str]
def F183_b : List (List SC) := []
def F183_m (g : ByteArray → (T2 → Option Res) → Option Res) (cf : CallF) : CallF := fun f args lent κ => match Nat.beq f 183 with
  | true => match okC F183_s args && okB F183_b lent with
    | true => g (stringOf (nth args 0)) (fun x => κ ((.agg [.int .i64 x.1, .int .i64 x.2.1, .str x.2.2.1, .bool x.2.2.2], []) : Res))
    | false => cf f args lent κ
  | false => cf f args lent κ
theorem F183_d (k : Nat) (h : ∀ (a0 : ByteArray) (κ : Res → Option Res), (ev Try.prog cfg k).call 183 [.str a0] [] κ = F183 k a0 (fun x => κ ((.agg [.int .i64 x.1, .int .i64 x.2.1, .str x.2.2.1, .bool x.2.2.2], []) : Res))) : F183_m (F183 k) (ev Try.prog cfg k).call = (ev Try.prog cfg k).call := by
  funext f args lent κ
  unfold F183_m
  split
  · rename_i hp
    split
    · rename_i hs
      rw [Bool.and_eq_true] at hs
      have e : mkC F183_s 0 args = [.str (stringOf (nth args 0))] := by kernel_rfl
      have e' : mkB F183_b 0 lent = [] := by kernel_rfl
      obtain rfl := Nat.eq_of_beq_eq_true hp
      exact (h (stringOf (nth args 0)) κ).symm.trans (cong2 (fun a l => (ev Try.prog cfg k).call 183 a l κ) (e.symm.trans (okC_eq hs.1).symm) (e'.symm.trans (okB_eq hs.2).symm))
    · rfl
  · rfl
theorem F183_k  (cf : CallF) (lf : LoopF) (a0 : ByteArray) (κ : Res → Option Res) : evFn Try.prog cfg cf lf 183 [.str a0] [] κ = F183_B  a0 (fun x => κ ((.agg [.int .i64 x.1, .int .i64 x.2.1, .str x.2.2.1, .bool x.2.2.2], []) : Res)) := by
  kernel_rfl
theorem F183_ev : ∀ (k : Nat) (a0 : ByteArray) (κ : Res → Option Res), (ev Try.prog cfg k).call 183 [.str a0] [] κ = F183 k a0 (fun x => κ ((.agg [.int .i64 x.1, .int .i64 x.2.1, .str x.2.2.1, .bool x.2.2.2], []) : Res)) := by
  intro k
  induction k with
  | zero => intros; rfl
  | succ k ih =>
    intro a0 κ
    refine (ev_call' Try.prog cfg k 183 0 _ _ κ (by rfl)).trans ?_
    skip
    exact F183_k  _ _ a0 κ
def F184_B  (a0 : Bool) (κ : T2 → Option Res) : Option Res :=
  chk6 (κ ((3 : Int), ((0 : Int), ((⟨#[]⟩ : ByteArray), a0))))
/-- lamplighter/value.Truth -/
def F184 : Nat → Bool → (T2 → Option Res) → Option Res
  | 0, _, _ => none
  | k + 1, a0, κ => F184_B  a0 κ
def F184_s : List SC := [.one .bool]
def F184_b : List (List SC) := []
def F184_m (g : Bool → (T2 → Option Res) → Option Res) (cf : CallF) : CallF := fun f args lent κ => match Nat.beq f 184 with
  | true => match okC F184_s args && okB F184_b lent with
    | true => g (boolOf (nth args 0)) (fun x => κ ((.agg [.int .i64 x.1, .int .i64 x.2.1, .str x.2.2.1, .bool x.2.2.2], []) : Res))
    | false => cf f args lent κ
  | false => cf f args lent κ
theorem F184_d (k : Nat) (h : ∀ (a0 : Bool) (κ : Res → Option Res), (ev Try.prog cfg k).call 184 [.bool a0] [] κ = F184 k a0 (fun x => κ ((.agg [.int .i64 x.1, .int .i64 x.2.1, .str x.2.2.1, .bool x.2.2.2], []) : Res))) : F184_m (F184 k) (ev Try.prog cfg k).call = (ev Try.prog cfg k).call := by
  funext f args lent κ
  unfold F184_m
  split
  · rename_i hp
    split
    · rename_i hs
      rw [Bool.and_eq_true] at hs
      have e : mkC F184_s 0 args = [.bool (boolOf (nth args 0))] := by kernel_rfl
      have e' : mkB F184_b 0 lent = [] := by kernel_rfl
      obtain rfl := Nat.eq_of_beq_eq_true hp
      exact (h (boolOf (nth args 0)) κ).symm.trans (cong2 (fun a l => (ev Try.prog cfg k).call 184 a l κ) (e.symm.trans (okC_eq hs.1).symm) (e'.symm.trans (okB_eq hs.2).symm))
    · rfl
  · rfl
theorem F184_k  (cf : CallF) (lf : LoopF) (a0 : Bool) (κ : Res → Option Res) : evFn Try.prog cfg cf lf 184 [.bool a0] [] κ = F184_B  a0 (fun x => κ ((.agg [.int .i64 x.1, .int .i64 x.2.1, .str x.2.2.1, .bool x.2.2.2], []) : Res)) := by
  kernel_rfl
theorem F184_ev : ∀ (k : Nat) (a0 : Bool) (κ : Res → Option Res), (ev Try.prog cfg k).call 184 [.bool a0] [] κ = F184 k a0 (fun x => κ ((.agg [.int .i64 x.1, .int .i64 x.2.1, .str x.2.2.1, .bool x.2.2.2], []) : Res)) := by
  intro k
  induction k with
  | zero => intros; rfl
  | succ k ih =>
    intro a0 κ
    refine (ev_call' Try.prog cfg k 184 0 _ _ κ (by rfl)).trans ?_
    skip
    exact F184_k  _ _ a0 κ
def F166_B (gF182 : tF182) (gF183 : tF183) (gF184 : tF184) (a0 : T2) (κ : Bool → Option Res) : Option Res :=
  chk2 (if (a0.1 == (1 : Int)) = true then
    (chk1 (gF182 a0.2.1 fun x1 =>
     chk2 (κ ((a0.1 == x1.1) && ((a0.2.1 == x1.2.1) && ((a0.2.2.1 == x1.2.2.1) && (a0.2.2.2 == x1.2.2.2)))))))
   else
    (chk1 (if (a0.1 == (2 : Int)) = true then
      (chk1 (gF183 a0.2.2.1 fun x2 =>
       chk2 (if ((a0.1 == x2.1) && ((a0.2.1 == x2.2.1) && ((a0.2.2.1 == x2.2.2.1) && (a0.2.2.2 == x2.2.2.2)))) = true then
         (chk2 (κ (decide ((a0.2.2.1.size : Int) ≤ (64 : Int)))))
        else
         (κ false))))
     else
      (chk1 (if (a0.1 == (3 : Int)) = true then
        (chk1 (gF184 a0.2.2.2 fun x3 =>
         chk2 (κ ((a0.1 == x3.1) && ((a0.2.1 == x3.2.1) && ((a0.2.2.1 == x3.2.2.1) && (a0.2.2.2 == x3.2.2.2)))))))
       else
        (κ false))))))
/-- lamplighter/value.May -/
def F166 : Nat → T2 → (Bool → Option Res) → Option Res
  | 0, _, _ => none
  | k + 1, a0, κ => F166_B (F182 k) (F183 k) (F184 k) a0 κ
def F166_s : List SC := [.agg [.int .i64, .int .i64, .str, .bool]]
def F166_b : List (List SC) := []
def F166_m (g : T2 → (Bool → Option Res) → Option Res) (cf : CallF) : CallF := fun f args lent κ => match Nat.beq f 166 with
  | true => match okC F166_s args && okB F166_b lent with
    | true => g ((intOf (nth (aggOf (nth args 0)) 0)), ((intOf (nth (aggOf (nth args 0)) 1)), ((stringOf (nth (aggOf (nth args 0)) 2)), (boolOf (nth (aggOf (nth args 0)) 3))))) (fun x => κ ((.bool x, []) : Res))
    | false => cf f args lent κ
  | false => cf f args lent κ
theorem F166_d (k : Nat) (h : ∀ (a0 : T2) (κ : Res → Option Res), (ev Try.prog cfg k).call 166 [.agg [.int .i64 a0.1, .int .i64 a0.2.1, .str a0.2.2.1, .bool a0.2.2.2]] [] κ = F166 k a0 (fun x => κ ((.bool x, []) : Res))) : F166_m (F166 k) (ev Try.prog cfg k).call = (ev Try.prog cfg k).call := by
  funext f args lent κ
  unfold F166_m
  split
  · rename_i hp
    split
    · rename_i hs
      rw [Bool.and_eq_true] at hs
      have e : mkC F166_s 0 args = [.agg [.int .i64 (intOf (nth (aggOf (nth args 0)) 0)), .int .i64 (intOf (nth (aggOf (nth args 0)) 1)), .str (stringOf (nth (aggOf (nth args 0)) 2)), .bool (boolOf (nth (aggOf (nth args 0)) 3))]] := by kernel_rfl
      have e' : mkB F166_b 0 lent = [] := by kernel_rfl
      obtain rfl := Nat.eq_of_beq_eq_true hp
      exact (h ((intOf (nth (aggOf (nth args 0)) 0)), ((intOf (nth (aggOf (nth args 0)) 1)), ((stringOf (nth (aggOf (nth args 0)) 2)), (boolOf (nth (aggOf (nth args 0)) 3))))) κ).symm.trans (cong2 (fun a l => (ev Try.prog cfg k).call 166 a l κ) (e.symm.trans (okC_eq hs.1).symm) (e'.symm.trans (okB_eq hs.2).symm))
    · rfl
  · rfl
theorem F166_k (gF182 : tF182) (gF183 : tF183) (gF184 : tF184) (cf : CallF) (lf : LoopF) (a0 : T2) (κ : Res → Option Res) : evFn Try.prog cfg (F182_m gF182 (F183_m gF183 (F184_m gF184 cf))) lf 166 [.agg [.int .i64 a0.1, .int .i64 a0.2.1, .str a0.2.2.1, .bool a0.2.2.2]] [] κ = F166_B gF182 gF183 gF184 a0 (fun x => κ ((.bool x, []) : Res)) := by
  kernel_rfl
theorem F166_ev : ∀ (k : Nat) (a0 : T2) (κ : Res → Option Res), (ev Try.prog cfg k).call 166 [.agg [.int .i64 a0.1, .int .i64 a0.2.1, .str a0.2.2.1, .bool a0.2.2.2]] [] κ = F166 k a0 (fun x => κ ((.bool x, []) : Res)) := by
  intro k
  induction k with
  | zero => intros; rfl
  | succ k ih =>
    intro a0 κ
    refine (ev_call' Try.prog cfg k 166 0 _ _ κ (by rfl)).trans ?_
    rw [← F182_d k (F182_ev k), ← F183_d k (F183_ev k), ← F184_d k (F184_ev k)]
    exact F166_k _ _ _ _ _ a0 κ
def F136_B (gF166 : tF166) (gF91 : tF91) (a0 : T7) (κ : Bool → Option Res) : Option Res :=
  chk2 (if (a0.1 == (1 : Int)) = true then
    (chk1 (gF166 a0.2.1 fun x1 =>
     chk1 (if x1 = true then
       (chk1 (if (a0.2.1.2.1 != (-9223372036854775808 : Int)) = true then
         (chk1 (if (a0.2.2.1.toList == (⟨#[]⟩ : ByteArray).toList) = true then
           (chk1 (κ (a0.2.2.2.toList == (⟨#[]⟩ : ByteArray).toList)))
          else
           (κ false)))
        else
         (if false = true then
          (none)
         else
          (κ false))))
      else
       (if false = true then
        (none)
       else
        (if false = true then
         (none)
        else
         (κ false))))))
   else
    (chk1 (if (a0.1 == (2 : Int)) = true then
      (chk2 (if ((a0.2.1.1 == (0 : Int)) && ((a0.2.1.2.1 == (0 : Int)) && ((a0.2.1.2.2.1 == (⟨#[]⟩ : ByteArray)) && (a0.2.1.2.2.2 == false)))) = true then
        (chk1 (gF91 a0.2.2.1 fun x2 =>
         chk1 (if x2 = true then
           (chk1 (gF91 a0.2.2.2 fun x3 =>
            chk1 (κ x3)))
          else
           (κ false))))
       else
        (if false = true then
         (none)
        else
         (κ false))))
     else
      (chk3 (κ ((a0.1 == a0.1) && (((a0.2.1.1 == (0 : Int)) && ((a0.2.1.2.1 == (0 : Int)) && ((a0.2.1.2.2.1 == (⟨#[]⟩ : ByteArray)) && (a0.2.1.2.2.2 == false)))) && ((a0.2.2.1 == (⟨#[]⟩ : ByteArray)) && (a0.2.2.2 == (⟨#[]⟩ : ByteArray))))))))))
/-- lamplighter/term.node -/
def F136 : Nat → T7 → (Bool → Option Res) → Option Res
  | 0, _, _ => none
  | k + 1, a0, κ => F136_B (F166 k) (F91 k) a0 κ
def F136_s : List SC := [.agg [.int .i64, .int .i64, .int .i64, .str, .bool, .str, .str]]
def F136_b : List (List SC) := []
def F136_m (g : T7 → (Bool → Option Res) → Option Res) (cf : CallF) : CallF := fun f args lent κ => match Nat.beq f 136 with
  | true => match okC F136_s args && okB F136_b lent with
    | true => g ((intOf (nth (aggOf (nth args 0)) 0)), (((intOf (nth (aggOf (nth args 0)) 1)), ((intOf (nth (aggOf (nth args 0)) 2)), ((stringOf (nth (aggOf (nth args 0)) 3)), (boolOf (nth (aggOf (nth args 0)) 4))))), ((stringOf (nth (aggOf (nth args 0)) 5)), (stringOf (nth (aggOf (nth args 0)) 6))))) (fun x => κ ((.bool x, []) : Res))
    | false => cf f args lent κ
  | false => cf f args lent κ
theorem F136_d (k : Nat) (h : ∀ (a0 : T7) (κ : Res → Option Res), (ev Try.prog cfg k).call 136 [.agg [.int .i64 a0.1, .int .i64 a0.2.1.1, .int .i64 a0.2.1.2.1, .str a0.2.1.2.2.1, .bool a0.2.1.2.2.2, .str a0.2.2.1, .str a0.2.2.2]] [] κ = F136 k a0 (fun x => κ ((.bool x, []) : Res))) : F136_m (F136 k) (ev Try.prog cfg k).call = (ev Try.prog cfg k).call := by
  funext f args lent κ
  unfold F136_m
  split
  · rename_i hp
    split
    · rename_i hs
      rw [Bool.and_eq_true] at hs
      have e : mkC F136_s 0 args = [.agg [.int .i64 (intOf (nth (aggOf (nth args 0)) 0)), .int .i64 (intOf (nth (aggOf (nth args 0)) 1)), .int .i64 (intOf (nth (aggOf (nth args 0)) 2)), .str (stringOf (nth (aggOf (nth args 0)) 3)), .bool (boolOf (nth (aggOf (nth args 0)) 4)), .str (stringOf (nth (aggOf (nth args 0)) 5)), .str (stringOf (nth (aggOf (nth args 0)) 6))]] := by kernel_rfl
      have e' : mkB F136_b 0 lent = [] := by kernel_rfl
      obtain rfl := Nat.eq_of_beq_eq_true hp
      exact (h ((intOf (nth (aggOf (nth args 0)) 0)), (((intOf (nth (aggOf (nth args 0)) 1)), ((intOf (nth (aggOf (nth args 0)) 2)), ((stringOf (nth (aggOf (nth args 0)) 3)), (boolOf (nth (aggOf (nth args 0)) 4))))), ((stringOf (nth (aggOf (nth args 0)) 5)), (stringOf (nth (aggOf (nth args 0)) 6))))) κ).symm.trans (cong2 (fun a l => (ev Try.prog cfg k).call 136 a l κ) (e.symm.trans (okC_eq hs.1).symm) (e'.symm.trans (okB_eq hs.2).symm))
    · rfl
  · rfl
theorem F136_k (gF166 : tF166) (gF91 : tF91) (cf : CallF) (lf : LoopF) (a0 : T7) (κ : Res → Option Res) : evFn Try.prog cfg (F166_m gF166 (F91_m gF91 cf)) lf 136 [.agg [.int .i64 a0.1, .int .i64 a0.2.1.1, .int .i64 a0.2.1.2.1, .str a0.2.1.2.2.1, .bool a0.2.1.2.2.2, .str a0.2.2.1, .str a0.2.2.2]] [] κ = F136_B gF166 gF91 a0 (fun x => κ ((.bool x, []) : Res)) := by
  kernel_rfl
theorem F136_ev : ∀ (k : Nat) (a0 : T7) (κ : Res → Option Res), (ev Try.prog cfg k).call 136 [.agg [.int .i64 a0.1, .int .i64 a0.2.1.1, .int .i64 a0.2.1.2.1, .str a0.2.1.2.2.1, .bool a0.2.1.2.2.2, .str a0.2.2.1, .str a0.2.2.2]] [] κ = F136 k a0 (fun x => κ ((.bool x, []) : Res)) := by
  intro k
  induction k with
  | zero => intros; rfl
  | succ k ih =>
    intro a0 κ
    refine (ev_call' Try.prog cfg k 136 0 _ _ κ (by rfl)).trans ?_
    rw [← F166_d k (F166_ev k), ← F91_d k (F91_ev k)]
    exact F136_k _ _ _ _ a0 κ
def L95_0_B (gF96 : tF96) (gF136 : tF136) (gL95_0 : tL95_0) (κ : Bool → Option Res) (p0 : Int) (p1 : T8) (p2 : Int) (p3 : Int) (K : Int × Int → Option Res) : Option Res :=
  chk1 (if decide (p3 < p2) = true then
    (if (true && (decide ((0 : Int) ≤ p3) && decide (p3 < (p1.length : Int)))) = true then
     (chk4 (gF96 ((p1.getD p3.toNat ((0 : Int), (((0 : Int), ((0 : Int), ((⟨#[]⟩ : ByteArray), false))), ((⟨#[]⟩ : ByteArray), (⟨#[]⟩ : ByteArray))))).1) fun x1 =>
      chk2 (if decide (x1 < (0 : Int)) = true then
        (chk2 (κ false))
       else
        (chk1 (gF136 ((p1.getD p3.toNat ((0 : Int), (((0 : Int), ((0 : Int), ((⟨#[]⟩ : ByteArray), false))), ((⟨#[]⟩ : ByteArray), (⟨#[]⟩ : ByteArray))))).1, (((((p1.getD p3.toNat ((0 : Int), (((0 : Int), ((0 : Int), ((⟨#[]⟩ : ByteArray), false))), ((⟨#[]⟩ : ByteArray), (⟨#[]⟩ : ByteArray))))).2).1).1, (((((p1.getD p3.toNat ((0 : Int), (((0 : Int), ((0 : Int), ((⟨#[]⟩ : ByteArray), false))), ((⟨#[]⟩ : ByteArray), (⟨#[]⟩ : ByteArray))))).2).1).2).1, (((((p1.getD p3.toNat ((0 : Int), (((0 : Int), ((0 : Int), ((⟨#[]⟩ : ByteArray), false))), ((⟨#[]⟩ : ByteArray), (⟨#[]⟩ : ByteArray))))).2).1).2).2))), (((p1.getD p3.toNat ((0 : Int), (((0 : Int), ((0 : Int), ((⟨#[]⟩ : ByteArray), false))), ((⟨#[]⟩ : ByteArray), (⟨#[]⟩ : ByteArray))))).2).2))) fun x2 =>
         chk1 (if (!x2) = true then
           (chk1 (κ false))
          else
           (chk1 (if decide (p0 < x1) = true then
             (κ false)
            else
             (chk3 (gL95_0 (IntKind.wrap .i64 (p0 + (IntKind.wrap .i64 ((1 : Int) - x1)))) p1 p2 (IntKind.wrap .i64 (p3 + (1 : Int))) K))))))))))
    else
     (none))
   else
    (K (p0, p3)))
def L95_0 : Nat → (Bool → Option Res) → Int → T8 → Int → Int → (Int × Int → Option Res) → Option Res
  | 0, _, _, _, _, _, _ => none
  | k + 1, κ, p0, p1, p2, p3, K => L95_0_B (F96 k) (F136 k) (fun p0 p1 p2 p3 K => L95_0 k κ p0 p1 p2 p3 K) κ p0 p1 p2 p3 K
def L95_0_s : Tr SC := Tr.of (nthD (.one .undef) [.one .undef, .one .undef, .one .undef, .one (.int .i64), .one .undef, .one .undef, .one .undef, .one .undef, .one .undef, .one .undef, .one (.list (.pair (.int .i64) (.pair (.pair (.int .i64) (.pair (.int .i64) (.pair .str .bool))) (.pair .str .str))) .no), .one (.int .i64), .one (.int .i64)]) 6
def L95_0_b : Tr (List SC) := Tr.of (nthD [] []) 6
def L95_0_m (g : Int → T8 → Int → Int → (Int × Int → Option Res) → Option Res) (lf : LoopF) : LoopF := fun p σ K => match pathEq p [true, true, true, false, true, false] with
  | true => match okSt 38 L95_0_s L95_0_b σ with
    | true => g (intOf (Tr.val .undef (Tr.lft (Tr.lft σ.slots)))) (listOf (.pair (.int .i64) (.pair (.pair (.int .i64) (.pair (.int .i64) (.pair .str .bool))) (.pair .str .str))) (Tr.val .undef (Tr.lft (Tr.rgt (Tr.rgt σ.slots))))) (intOf (Tr.val .undef (Tr.rgt (Tr.lft (Tr.lft σ.slots))))) (intOf (Tr.val .undef (Tr.rgt (Tr.lft (Tr.rgt σ.slots))))) (fun v => K (.exit 0) ⟨38, Tr.of (nthD .undef [.undef, .undef, .undef, .int .i64 v.1, .undef, .undef, .undef, .undef, .undef, .undef, .list (.pair (.int .i64) (.pair (.pair (.int .i64) (.pair (.int .i64) (.pair .str .bool))) (.pair .str .str))) (listOf (.pair (.int .i64) (.pair (.pair (.int .i64) (.pair (.int .i64) (.pair .str .bool))) (.pair .str .str))) (Tr.val .undef (Tr.lft (Tr.rgt (Tr.rgt σ.slots))))) .no, .int .i64 (intOf (Tr.val .undef (Tr.rgt (Tr.lft (Tr.lft σ.slots))))), .int .i64 v.2]) 6, Tr.of (nthD [] []) 6⟩)
    | false => lf p σ K
  | false => lf p σ K
theorem L95_0_d (k : Nat) (κ : Res → Option Res) (h : ∀ (p0 : Int) (p1 : T8) (p2 : Int) (p3 : Int) (K : Cont), (ev Try.prog cfg k).loop 95 0 κ [true, true, true, false, true, false] ⟨38, Tr.of (nthD .undef [.undef, .undef, .undef, .int .i64 p0, .undef, .undef, .undef, .undef, .undef, .undef, .list (.pair (.int .i64) (.pair (.pair (.int .i64) (.pair (.int .i64) (.pair .str .bool))) (.pair .str .str))) p1 .no, .int .i64 p2, .int .i64 p3]) 6, Tr.of (nthD [] []) 6⟩ K = L95_0 k (fun x => κ ((.bool x, []) : Res)) p0 p1 p2 p3 (fun v => K (.exit 0) ⟨38, Tr.of (nthD .undef [.undef, .undef, .undef, .int .i64 v.1, .undef, .undef, .undef, .undef, .undef, .undef, .list (.pair (.int .i64) (.pair (.pair (.int .i64) (.pair (.int .i64) (.pair .str .bool))) (.pair .str .str))) p1 .no, .int .i64 p2, .int .i64 v.2]) 6, Tr.of (nthD [] []) 6⟩)) : L95_0_m (L95_0 k (fun x => κ ((.bool x, []) : Res))) ((ev Try.prog cfg k).loop 95 0 κ) = (ev Try.prog cfg k).loop 95 0 κ := by
  funext p σ K
  unfold L95_0_m
  split
  · rename_i hp
    split
    · rename_i hs
      have e : mkSt 38 L95_0_s L95_0_b σ = ⟨38, Tr.of (nthD .undef [.undef, .undef, .undef, .int .i64 (intOf (Tr.val .undef (Tr.lft (Tr.lft σ.slots)))), .undef, .undef, .undef, .undef, .undef, .undef, .list (.pair (.int .i64) (.pair (.pair (.int .i64) (.pair (.int .i64) (.pair .str .bool))) (.pair .str .str))) (listOf (.pair (.int .i64) (.pair (.pair (.int .i64) (.pair (.int .i64) (.pair .str .bool))) (.pair .str .str))) (Tr.val .undef (Tr.lft (Tr.rgt (Tr.rgt σ.slots))))) .no, .int .i64 (intOf (Tr.val .undef (Tr.rgt (Tr.lft (Tr.lft σ.slots))))), .int .i64 (intOf (Tr.val .undef (Tr.rgt (Tr.lft (Tr.rgt σ.slots)))))]) 6, Tr.of (nthD [] []) 6⟩ := by kernel_rfl
      rw [pathEq_eq hp]
      exact (h (intOf (Tr.val .undef (Tr.lft (Tr.lft σ.slots)))) (listOf (.pair (.int .i64) (.pair (.pair (.int .i64) (.pair (.int .i64) (.pair .str .bool))) (.pair .str .str))) (Tr.val .undef (Tr.lft (Tr.rgt (Tr.rgt σ.slots))))) (intOf (Tr.val .undef (Tr.rgt (Tr.lft (Tr.lft σ.slots))))) (intOf (Tr.val .undef (Tr.rgt (Tr.lft (Tr.rgt σ.slots))))) K).symm.trans (congrArg (fun s => (ev Try.prog cfg k).loop 95 0 κ [true, true, true, false, true, false] s K) (e.symm.trans (okSt_eq hs).symm))
    · rfl
  · rfl
theorem L95_0_k (gF96 : tF96) (gF136 : tF136) (gL95_0 : tL95_0) (cf : CallF) (lf : LoopF) (κ : Res → Option Res) (p0 : Int) (p1 : T8) (p2 : Int) (p3 : Int) (K : Cont) : evLp Try.prog cfg (F96_m gF96 (F136_m gF136 cf)) (L95_0_m gL95_0 lf) 95 0 κ [true, true, true, false, true, false] ⟨38, Tr.of (nthD .undef [.undef, .undef, .undef, .int .i64 p0, .undef, .undef, .undef, .undef, .undef, .undef, .list (.pair (.int .i64) (.pair (.pair (.int .i64) (.pair (.int .i64) (.pair .str .bool))) (.pair .str .str))) p1 .no, .int .i64 p2, .int .i64 p3]) 6, Tr.of (nthD [] []) 6⟩ K = L95_0_B gF96 gF136 gL95_0 (fun x => κ ((.bool x, []) : Res)) p0 p1 p2 p3 (fun v => K (.exit 0) ⟨38, Tr.of (nthD .undef [.undef, .undef, .undef, .int .i64 v.1, .undef, .undef, .undef, .undef, .undef, .undef, .list (.pair (.int .i64) (.pair (.pair (.int .i64) (.pair (.int .i64) (.pair .str .bool))) (.pair .str .str))) p1 .no, .int .i64 p2, .int .i64 v.2]) 6, Tr.of (nthD [] []) 6⟩) := by
  kernel_rfl
theorem L95_0_ev : ∀ (k : Nat) (κ : Res → Option Res) (p0 : Int) (p1 : T8) (p2 : Int) (p3 : Int) (K : Cont), (ev Try.prog cfg k).loop 95 0 κ [true, true, true, false, true, false] ⟨38, Tr.of (nthD .undef [.undef, .undef, .undef, .int .i64 p0, .undef, .undef, .undef, .undef, .undef, .undef, .list (.pair (.int .i64) (.pair (.pair (.int .i64) (.pair (.int .i64) (.pair .str .bool))) (.pair .str .str))) p1 .no, .int .i64 p2, .int .i64 p3]) 6, Tr.of (nthD [] []) 6⟩ K = L95_0 k (fun x => κ ((.bool x, []) : Res)) p0 p1 p2 p3 (fun v => K (.exit 0) ⟨38, Tr.of (nthD .undef [.undef, .undef, .undef, .int .i64 v.1, .undef, .undef, .undef, .undef, .undef, .undef, .list (.pair (.int .i64) (.pair (.pair (.int .i64) (.pair (.int .i64) (.pair .str .bool))) (.pair .str .str))) p1 .no, .int .i64 p2, .int .i64 v.2]) 6, Tr.of (nthD [] []) 6⟩) := by
  intro k κ
  induction k with
  | zero => intro p0 p1 p2 p3 K; rfl
  | succ k ih =>
    intro p0 p1 p2 p3 K
    rw [ev_loop, ← F96_d k (F96_ev k), ← F136_d k (F136_ev k), ← L95_0_d k κ ih]
    exact L95_0_k _ _ _ _ _ κ p0 p1 p2 p3 K
def F95_B (gF96 : tF96) (gF136 : tF136) (gL95_0 : tL95_0) (a0 : T8) (κ : Bool → Option Res) : Option Res :=
  chk2 (if decide ((a0.length : Int) > (64 : Int)) = true then
    (κ false)
   else
    (chk1 (gL95_0 (0 : Int) a0 (a0.length : Int) (0 : Int) fun v3 =>
     chk1 (κ (v3.1 == (1 : Int))))))
/-- lamplighter/term.May -/
def F95 : Nat → T8 → (Bool → Option Res) → Option Res
  | 0, _, _ => none
  | k + 1, a0, κ => F95_B (F96 k) (F136 k) (L95_0 k κ) a0 κ
def F95_s : List SC := [.one (.list (.pair (.int .i64) (.pair (.pair (.int .i64) (.pair (.int .i64) (.pair .str .bool))) (.pair .str .str))) .no)]
def F95_b : List (List SC) := []
def F95_m (g : T8 → (Bool → Option Res) → Option Res) (cf : CallF) : CallF := fun f args lent κ => match Nat.beq f 95 with
  | true => match okC F95_s args && okB F95_b lent with
    | true => g (listOf (.pair (.int .i64) (.pair (.pair (.int .i64) (.pair (.int .i64) (.pair .str .bool))) (.pair .str .str))) (nth args 0)) (fun x => κ ((.bool x, []) : Res))
    | false => cf f args lent κ
  | false => cf f args lent κ
theorem F95_d (k : Nat) (h : ∀ (a0 : T8) (κ : Res → Option Res), (ev Try.prog cfg k).call 95 [.list (.pair (.int .i64) (.pair (.pair (.int .i64) (.pair (.int .i64) (.pair .str .bool))) (.pair .str .str))) a0 .no] [] κ = F95 k a0 (fun x => κ ((.bool x, []) : Res))) : F95_m (F95 k) (ev Try.prog cfg k).call = (ev Try.prog cfg k).call := by
  funext f args lent κ
  unfold F95_m
  split
  · rename_i hp
    split
    · rename_i hs
      rw [Bool.and_eq_true] at hs
      have e : mkC F95_s 0 args = [.list (.pair (.int .i64) (.pair (.pair (.int .i64) (.pair (.int .i64) (.pair .str .bool))) (.pair .str .str))) (listOf (.pair (.int .i64) (.pair (.pair (.int .i64) (.pair (.int .i64) (.pair .str .bool))) (.pair .str .str))) (nth args 0)) .no] := by kernel_rfl
      have e' : mkB F95_b 0 lent = [] := by kernel_rfl
      obtain rfl := Nat.eq_of_beq_eq_true hp
      exact (h (listOf (.pair (.int .i64) (.pair (.pair (.int .i64) (.pair (.int .i64) (.pair .str .bool))) (.pair .str .str))) (nth args 0)) κ).symm.trans (cong2 (fun a l => (ev Try.prog cfg k).call 95 a l κ) (e.symm.trans (okC_eq hs.1).symm) (e'.symm.trans (okB_eq hs.2).symm))
    · rfl
  · rfl
theorem F95_k (gF96 : tF96) (gF136 : tF136) (gL95_0 : tL95_0) (cf : CallF) (lf : LoopF) (a0 : T8) (κ : Res → Option Res) : evFn Try.prog cfg (F96_m gF96 (F136_m gF136 cf)) (L95_0_m gL95_0 lf) 95 [.list (.pair (.int .i64) (.pair (.pair (.int .i64) (.pair (.int .i64) (.pair .str .bool))) (.pair .str .str))) a0 .no] [] κ = F95_B gF96 gF136 gL95_0 a0 (fun x => κ ((.bool x, []) : Res)) := by
  kernel_rfl
theorem F95_ev : ∀ (k : Nat) (a0 : T8) (κ : Res → Option Res), (ev Try.prog cfg k).call 95 [.list (.pair (.int .i64) (.pair (.pair (.int .i64) (.pair (.int .i64) (.pair .str .bool))) (.pair .str .str))) a0 .no] [] κ = F95 k a0 (fun x => κ ((.bool x, []) : Res)) := by
  intro k
  induction k with
  | zero => intros; rfl
  | succ k ih =>
    intro a0 κ
    refine (ev_call' Try.prog cfg k 95 0 _ _ κ (by rfl)).trans ?_
    rw [← F96_d k (F96_ev k), ← F136_d k (F136_ev k), ← L95_0_d k κ (L95_0_ev k κ)]
    exact F95_k _ _ _ _ _ a0 κ
end Go.Proofs.Ytkfphlmbdppbfaa.TyM
