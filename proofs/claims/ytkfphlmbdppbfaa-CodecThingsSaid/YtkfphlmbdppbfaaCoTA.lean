/- The functions that 'lamplighter/lamplighterlaw53.CodecThings' reaches, over lists and numbers, and that the machine of values comes to them (printed by wip/vm/gen.py). No condition. -/
import Derived.Test.YtkfphlmbdppbfaaVmShape
import Derived.Test.YtkfphlmbdppbfaaProg
import Derived.KernelRfl
namespace Go.Proofs.Ytkfphlmbdppbfaa.CoT
open Go Go.Proofs.Ytkfphlmbdppbfaa.Vm
set_option linter.unusedVariables false
set_option maxRecDepth 100000
def tab : List Row := [
  ⟨2, false, [.int .i64], (.int .i64), 8, .flat⟩,
  ⟨3, false, [.int .i64], (.int .i64), 8, .flat⟩,
  ⟨4, false, [.bool], .bool, 1, .flat⟩,
  ⟨5, false, [.int .u8], (.int .u8), 1, .flat⟩,
  ⟨9, false, [.str], .str, 16, .flat⟩,
  ⟨23, false, [.ptr], .unit, 8, .flat⟩,
  ⟨24, false, [.list (.int .u8)], (.list (.int .u8)), 24, .slice 5⟩,
  ⟨26, true, [.list (.int .u8)], (.list (.int .u8)), 24, .struct [(0, 24)]⟩,
  ⟨28, false, [.int .u64], (.int .u64), 8, .flat⟩,
  ⟨36, false, [.ptr], .unit, 8, .flat⟩,
  ⟨42, false, [.int .i64], (.int .i64), 8, .flat⟩,
  ⟨47, false, [.list (.pair .str (.pair .str (.pair (.int .i64) (.pair (.int .i64) (.list (.pair (.int .i64) (.pair (.int .i64) (.pair .str .bool))))))))], (.list (.pair .str (.pair .str (.pair (.int .i64) (.pair (.int .i64) (.list (.pair (.int .i64) (.pair (.int .i64) (.pair .str .bool))))))))), 24, .slice 51⟩,
  ⟨49, false, [.list (.pair (.int .i64) (.pair (.int .i64) (.pair .str .bool)))], (.list (.pair (.int .i64) (.pair (.int .i64) (.pair .str .bool)))), 24, .slice 84⟩,
  ⟨51, true, [.str, .str, .int .i64, .int .i64, .list (.pair (.int .i64) (.pair (.int .i64) (.pair .str .bool)))], (.pair .str (.pair .str (.pair (.int .i64) (.pair (.int .i64) (.list (.pair (.int .i64) (.pair (.int .i64) (.pair .str .bool)))))))), 72, .struct [(0, 9), (1, 9), (2, 2), (3, 2), (4, 49)]⟩,
  ⟨58, false, [.list (.pair (.int .i64) (.int .i64))], (.list (.pair (.int .i64) (.int .i64))), 24, .slice 109⟩,
  ⟨60, true, [.int .i64, .str, .int .i64, .str, .int .i64, .int .i64, .list (.pair (.int .i64) (.int .i64))], (.pair (.int .i64) (.pair .str (.pair (.int .i64) (.pair .str (.pair (.int .i64) (.pair (.int .i64) (.list (.pair (.int .i64) (.int .i64))))))))), 88, .struct [(0, 3), (1, 9), (2, 3), (3, 9), (4, 2), (5, 2), (6, 58)]⟩,
  ⟨67, false, [.list (.pair (.int .i64) (.pair .str (.pair (.int .i64) (.pair .str (.pair (.int .i64) (.pair (.int .i64) (.list (.pair (.int .i64) (.int .i64)))))))))], (.list (.pair (.int .i64) (.pair .str (.pair (.int .i64) (.pair .str (.pair (.int .i64) (.pair (.int .i64) (.list (.pair (.int .i64) (.int .i64)))))))))), 24, .slice 60⟩,
  ⟨84, true, [.int .i64, .int .i64, .str, .bool], (.pair (.int .i64) (.pair (.int .i64) (.pair .str .bool))), 40, .struct [(0, 3), (1, 2), (2, 9), (3, 4)]⟩,
  ⟨95, false, [.list .str], (.list .str), 24, .slice 9⟩,
  ⟨109, true, [.int .i64, .int .i64], (.pair (.int .i64) (.int .i64)), 16, .struct [(0, 3), (1, 2)]⟩,
  ⟨149, true, [.list (.int .u8), .int .i64], (.pair (.list (.int .u8)) (.int .i64)), 32, .struct [(0, 24), (1, 42)]⟩]
def pathEq' : List Bool → List Bool → Bool
  | [], [] => true
  | true :: p, true :: q => pathEq' p q
  | false :: p, false :: q => pathEq' p q
  | _, _ => false
def cfg : Cfg := ⟨tab, fun f => if Nat.beq f 81 = true then 0 else 2, fun f => if Nat.beq f 80 = true then 1 else 0, fun f => if Nat.beq f 5 = true then [4, 5, 6, 7, 9, 10, 12, 13, 43, 51] else if Nat.beq f 13 = true then [1, 12, 24] else if Nat.beq f 14 = true then [2] else if Nat.beq f 16 = true then [2] else if Nat.beq f 17 = true then [13] else if Nat.beq f 18 = true then [2] else if Nat.beq f 19 = true then [4] else if Nat.beq f 20 = true then [2] else if Nat.beq f 21 = true then [2] else if Nat.beq f 22 = true then [2, 3, 4, 5, 51] else if Nat.beq f 23 = true then [2, 3] else if Nat.beq f 24 = true then [2, 3, 4, 26] else if Nat.beq f 25 = true then [2, 3] else if Nat.beq f 26 = true then [2, 8] else if Nat.beq f 27 = true then [0, 1, 2] else if Nat.beq f 28 = true then [2] else if Nat.beq f 29 = true then [2] else if Nat.beq f 30 = true then [3, 4, 5, 6, 63] else if Nat.beq f 31 = true then [2, 3] else if Nat.beq f 32 = true then [2, 3, 4, 5, 6, 16, 31, 32] else if Nat.beq f 33 = true then [2, 3, 4, 41] else if Nat.beq f 35 = true then [25] else if Nat.beq f 36 = true then [4, 5] else if Nat.beq f 37 = true then [2] else if Nat.beq f 38 = true then [4, 5] else if Nat.beq f 82 = true then [4, 5] else if Nat.beq f 84 = true then [18, 29] else if Nat.beq f 85 = true then [2, 5, 11, 17] else if Nat.beq f 87 = true then [2, 3, 8, 20] else if Nat.beq f 88 = true then [4, 5] else if Nat.beq f 89 = true then [2, 3, 4, 30] else if Nat.beq f 90 = true then [4, 5] else if Nat.beq f 131 = true then [11, 17, 23] else if Nat.beq f 132 = true then [11, 16, 21, 37] else if Nat.beq f 166 = true then [2, 5, 12, 25] else [], fun f => if Nat.beq f 5 = true then [4, 5, 6, 7, 9, 10, 12, 13] else if Nat.beq f 13 = true then [1] else if Nat.beq f 14 = true then [2] else if Nat.beq f 16 = true then [2] else if Nat.beq f 18 = true then [2] else if Nat.beq f 19 = true then [4] else if Nat.beq f 20 = true then [2] else if Nat.beq f 21 = true then [2] else if Nat.beq f 22 = true then [2, 3, 4, 5] else if Nat.beq f 23 = true then [2, 3] else if Nat.beq f 24 = true then [2, 3, 4] else if Nat.beq f 25 = true then [2, 3] else if Nat.beq f 26 = true then [2] else if Nat.beq f 27 = true then [0, 1, 2] else if Nat.beq f 28 = true then [2] else if Nat.beq f 29 = true then [2] else if Nat.beq f 30 = true then [3, 4, 5, 6] else if Nat.beq f 31 = true then [2, 3] else if Nat.beq f 32 = true then [2, 3, 4, 5, 6] else if Nat.beq f 33 = true then [2, 3, 4] else if Nat.beq f 36 = true then [4, 5] else if Nat.beq f 37 = true then [2] else if Nat.beq f 38 = true then [4, 5] else if Nat.beq f 82 = true then [4, 5] else if Nat.beq f 85 = true then [2, 5, 11, 17] else if Nat.beq f 87 = true then [2, 3] else if Nat.beq f 88 = true then [4, 5] else if Nat.beq f 89 = true then [2, 3, 4] else if Nat.beq f 90 = true then [4, 5] else if Nat.beq f 131 = true then [11, 17, 23] else if Nat.beq f 132 = true then [11, 16, 21] else if Nat.beq f 166 = true then [2, 5, 12, 25] else [], fun f p => if Nat.beq f 33 = true then (if pathEq' p [true, true, false, true, false] = true then [0, 2, 5, 6, 7, 8, 9, 10, 11, 12, 13, 14, 15, 16, 17, 18, 19, 20, 21, 22, 23, 24, 25, 26, 27, 28, 29, 30, 31, 32, 33, 34, 35, 36, 37, 38, 39, 40, 41] else []) else if Nat.beq f 13 = true then (if pathEq' p [false, false] = true then [2, 3, 4, 5, 6, 7, 8, 9, 10, 11, 12, 13, 14, 15, 16, 17, 18, 19, 20, 21, 22, 23, 24, 25, 26, 27, 28, 29, 30] else []) else if Nat.beq f 83 = true then (if pathEq' p [true, true, true, true, true, true, true, false] = true then [1, 2, 3, 4, 5, 6, 7, 8, 9, 10, 11, 12, 13, 14, 15, 16, 17, 18, 19, 20, 21, 22, 23, 24, 25, 26, 27, 28, 32, 33, 34, 35, 36, 37, 38] else []) else if Nat.beq f 31 = true then (if pathEq' p [true, true, true, false, true, false] = true then [0, 1, 2, 4, 5, 6, 8, 9, 10, 11, 12, 16, 17, 18, 19, 20, 21, 22, 23, 24] else []) else if Nat.beq f 22 = true then (if pathEq' p [true, true, false, true, false] = true then [1, 2, 5, 6, 7, 8, 9, 10, 11, 12, 13, 14, 15, 16, 17, 18, 19, 20, 21, 22, 23, 24, 25, 26, 27, 28, 29, 30, 31, 32, 33, 34, 35, 36, 37, 38, 39, 40, 41, 42, 43, 44, 45, 46, 47, 48, 49, 50, 51, 52, 53] else []) else if Nat.beq f 84 = true then (if pathEq' p [true, true, false, true, false] = true then [1, 4, 5, 6, 7, 8, 9, 10, 11, 12, 13, 16, 17, 18, 19, 20, 21, 22, 23, 24, 25, 26, 27, 28, 29] else []) else if Nat.beq f 32 = true then (if pathEq' p [true, true, true, true, false, true, false] = true then [0, 1, 2, 3, 6, 7, 8, 9, 10, 12, 15, 16, 17, 18, 19, 20, 21, 22, 23, 24, 25, 26, 27, 28, 29, 30, 31, 32] else []) else if Nat.beq f 86 = true then (if pathEq' p [true, true, false] = true then [1, 2, 3, 4, 5, 6, 7, 8, 9, 10, 14, 15, 16, 17, 18, 19, 20, 21, 22, 23, 24, 25] else []) else if Nat.beq f 87 = true then (if pathEq' p [true, true, false, true, false] = true then [1, 2, 4, 7, 8, 9, 10, 11, 12, 13, 14, 15, 16, 17, 18, 19, 20] else []) else if Nat.beq f 88 = true then (if pathEq' p [true, true, false, true, false] = true then [0, 1, 4, 6, 7, 8, 9, 10, 11, 12, 13, 14, 15, 16, 17, 18, 19, 20, 21, 22, 23, 24, 25, 26, 27, 28, 29, 30, 31, 32, 33, 34, 35, 36, 37, 38, 39, 40, 41, 42, 43, 44, 45, 46, 47, 48, 49, 50, 51, 52, 53, 54, 55, 56, 57, 58] else []) else if Nat.beq f 36 = true then (if pathEq' p [true, true, false, true, false] = true then [2, 3, 4, 6, 7, 8, 9, 10, 11, 12, 13, 14, 15, 16, 17, 18, 19, 20, 21, 22, 23, 24, 25, 26] else []) else if Nat.beq f 89 = true then (if pathEq' p [true, true, false, true, false] = true then [1, 2, 5, 6, 7, 8, 9, 10, 11, 12, 13, 14, 15, 16, 17, 18, 19, 20, 21, 22, 23, 24, 25, 26, 27, 28, 29, 30] else []) else if Nat.beq f 90 = true then (if pathEq' p [true, true, false, true, false] = true then [2, 3, 4, 6, 7, 8, 9, 10, 11, 12, 13, 14, 15, 16, 17, 18, 19, 20, 21, 22, 23, 24, 25] else []) else if Nat.beq f 38 = true then (if pathEq' p [true, true, false, true, false] = true then [2, 3, 4, 6, 7, 8, 9, 10, 11, 12, 13, 14, 15, 16, 17, 18, 19, 20, 21, 22, 23, 24, 25, 26, 27, 28, 29, 30, 31, 32, 33, 34, 35, 36, 37, 38, 39, 40, 41, 42, 43, 44, 45, 46, 47, 48, 49, 50, 51, 52, 53, 54, 55, 56, 57, 58, 59, 60, 61, 62, 63, 64, 65, 66, 67, 68, 69, 70, 71, 72, 73, 74] else []) else if Nat.beq f 5 = true then (if pathEq' p [true, true, false, true, false] = true then [1, 2, 4, 8, 9, 10, 11, 12, 13, 14, 15, 16, 17, 18, 19, 20, 21, 22, 23, 24, 25, 26, 27, 28, 29, 30, 31, 32, 33, 34, 35, 36, 37, 38, 39, 40, 41, 42, 43, 44, 45, 46, 47, 48, 49, 50, 51, 52, 53, 54, 55, 56, 57, 58, 59, 60, 61, 62, 63, 64, 65, 66, 67, 68, 69, 70, 71, 72, 73, 74, 75, 76, 77, 78, 79, 80, 81, 82, 83, 84, 85, 86, 87, 88, 89, 90, 91, 92, 93, 94, 95, 96, 97, 98, 99, 100, 101, 102, 103, 104, 105, 106, 107, 108, 109, 110, 111, 112, 113, 114, 115, 116, 117, 118, 119, 120, 121, 122, 123, 124, 125, 126, 127, 128, 129, 130, 131, 132, 133, 134, 135, 136, 137, 138, 139, 140, 141, 142] else []) else [], fun f p => if Nat.beq f 22 = true then (if pathEq' p [true, true, false, true, false] = true then [54] else []) else [], fun f p => if Nat.beq f 22 = true then (if pathEq' p [true, true, false, true, false] = true then [54] else []) else []⟩
abbrev T0 : Type := (Int × (ByteArray × Bool))
abbrev T1 : Type := (Int × (List (Int × Int)))
abbrev T2 : Type := (Int × T0)
abbrev T3 : Type := (Int × T1)
abbrev T4 : Type := (List T2)
abbrev T5 : Type := (ByteArray × T3)
abbrev T6 : Type := (Int × T4)
abbrev T7 : Type := (Int × T5)
abbrev T8 : Type := (Int × T6)
abbrev T9 : Type := (ByteArray × T7)
abbrev T10 : Type := (ByteArray × T8)
abbrev T11 : Type := (Int × T9)
abbrev T12 : Type := (List T11)
abbrev T13 : Type := (ByteArray × T10)
abbrev T14 : Type := (List T13)
abbrev tF30 : Type := T13 → (T13 → Option Res) → Option Res
abbrev tF14 : Type := Int → (ByteArray → Option Res) → Option Res
abbrev tF18 : Type := ByteArray → (ByteArray → Option Res) → Option Res
abbrev tF16 : Type := Int → (ByteArray → Option Res) → Option Res
abbrev tF20 : Type := Bool → (ByteArray → Option Res) → Option Res
abbrev tF85 : Type := T2 → (ByteArray → Option Res) → Option Res
abbrev tF33 : Type := T13 → (ByteArray → Option Res) → Option Res
abbrev tL33_0 : Type := ByteArray → Int → ByteArray → ByteArray → Int → Int → T4 → (ByteArray × Int → Option Res) → Option Res
abbrev tF13 : Type := Int → (List Int) → ((List Int) → Option Res) → Option Res
abbrev tL13_0 : Type := Int → (List Int) → (Int × (List Int) → Option Res) → Option Res
abbrev tF17 : Type := ByteArray → (List Int) → ((List Int) → Option Res) → Option Res
abbrev tF15 : Type := Int → (List Int) → ((List Int) → Option Res) → Option Res
abbrev tF19 : Type := Bool → (List Int) → ((List Int) → Option Res) → Option Res
abbrev tF131 : Type := T2 → (List Int) → ((List Int) → Option Res) → Option Res
abbrev tF83 : Type := T13 → (List Int) → ((List Int) → Option Res) → Option Res
abbrev tL83_0 : Type := T4 → Int → Int → (List Int) → (Int × (List Int) → Option Res) → Option Res
abbrev tF28 : Type := (List Int) → ((List Int) × (List Int) → Option Res) → Option Res
abbrev tF31 : Type := T14 → ((List Int) → Option Res) → Option Res
abbrev tL31_0 : Type := T14 → Int → Int → (List Int) → (Int × (List Int) → Option Res) → Option Res
abbrev tF21 : Type := (List Int) → ((List Int) × Int → Option Res) → Option Res
abbrev tF29 : Type := (List Int) → Int → (Int × (List Int) × Int → Option Res) → Option Res
abbrev tF29v1 : Type := (List Int) → Int → (Int × (List Int) × Int → Option Res) → Option Res
abbrev tF29v2 : Type := (List Int) → Int → (Int × (List Int) × Int → Option Res) → Option Res
abbrev tF81 : Type := Int → (List Int) → Int → ((List Int) × Int → Option Res) → Option Res
abbrev tF22 : Type := (List Int) → Int → (Int × (List Int) × Int → Option Res) → Option Res
abbrev tL22_0 : Type := Int → Int → (List Int) → Int → (Int × Int × (List Int) × Int → Option Res) → Option Res
abbrev tF82 : Type := Int → (List Int) → Int → (Int × (List Int) × Int → Option Res) → Option Res
abbrev tF22v1 : Type := (List Int) → Int → (Int × (List Int) × Int → Option Res) → Option Res
abbrev tL22v1_0 : Type := Int → Int → (List Int) → Int → (Int × Int × (List Int) × Int → Option Res) → Option Res
abbrev tF82v1 : Type := Int → (List Int) → Int → (Int × (List Int) × Int → Option Res) → Option Res
abbrev tF26 : Type := (List Int) → Int → (Int × (List Int) × Int → Option Res) → Option Res
abbrev tF24 : Type := (List Int) → Int → (ByteArray × (List Int) × Int → Option Res) → Option Res
abbrev tF23 : Type := (List Int) → Int → (Int × (List Int) × Int → Option Res) → Option Res
abbrev tF182 : Type := Int → (T2 → Option Res) → Option Res
abbrev tF183 : Type := ByteArray → (T2 → Option Res) → Option Res
abbrev tF184 : Type := Bool → (T2 → Option Res) → Option Res
abbrev tF166 : Type := T2 → (Bool → Option Res) → Option Res
abbrev tF25 : Type := (List Int) → Int → (Bool × (List Int) × Int → Option Res) → Option Res
abbrev tF132 : Type := (List Int) → Int → (T2 × (List Int) × Int → Option Res) → Option Res
abbrev tF84 : Type := (List Int) → Int → (T13 × (List Int) × Int → Option Res) → Option Res
abbrev tL84_0 : Type := Int → Int → ByteArray → ByteArray → Int → Int → T4 → ByteArray → ByteArray → Int → Int → T4 → (List Int) → Int → (Int × T4 × (List Int) × Int → Option Res) → Option Res
abbrev tF32 : Type := (List Int) → (T14 × Int → Option Res) → Option Res
abbrev tL32_0 : Type := T14 → Int → Int → (List Int) → Int → (T14 × Int × (List Int) × Int → Option Res) → Option Res
abbrev tF86 : Type := (List (Int × Int)) → (List Int) → ((List Int) → Option Res) → Option Res
abbrev tL86_0 : Type := (List (Int × Int)) → Int → Int → (List Int) → (Int × (List Int) → Option Res) → Option Res
abbrev tF34 : Type := T11 → (List Int) → ((List Int) → Option Res) → Option Res
abbrev tF87 : Type := (List Int) → Int → ((List (Int × Int)) × (List Int) × Int → Option Res) → Option Res
abbrev tL87_0 : Type := (List (Int × Int)) → Int → Int → (List Int) → Int → ((List (Int × Int)) × Int × (List Int) × Int → Option Res) → Option Res
abbrev tF35 : Type := (List Int) → Int → (T11 × (List Int) × Int → Option Res) → Option Res
abbrev tF27 : Type := (Bool → Option Res) → Option Res
abbrev tF88 : Type := T13 → T13 → (Bool → Option Res) → Option Res
abbrev tL88_0 : Type := Int → ByteArray → ByteArray → Int → Int → T4 → ByteArray → ByteArray → Int → Int → T4 → (Int → Option Res) → Option Res
abbrev tF36 : Type := T14 → T14 → (Bool → Option Res) → Option Res
abbrev tL36_0 : Type := T14 → T14 → Int → (Int → Option Res) → Option Res
abbrev tF89 : Type := (List (Int × Int)) → (ByteArray → Option Res) → Option Res
abbrev tL89_0 : Type := (List (Int × Int)) → ByteArray → Int → (ByteArray × Int → Option Res) → Option Res
abbrev tF37 : Type := T11 → (ByteArray → Option Res) → Option Res
abbrev tF90 : Type := (List (Int × Int)) → (List (Int × Int)) → (Bool → Option Res) → Option Res
abbrev tL90_0 : Type := (List (Int × Int)) → (List (Int × Int)) → Int → (Int → Option Res) → Option Res
abbrev tF38 : Type := T12 → T12 → (Bool → Option Res) → Option Res
abbrev tL38_0 : Type := T12 → T12 → Int → (Int → Option Res) → Option Res
abbrev tL5_0 : Type := T14 → T14 → ByteArray → Int → Int → ByteArray → Int → ByteArray → Int → Int → (List (Int × Int)) → (T14 × ByteArray × Int → Option Res) → Option Res
def F30_B  (a0 : T13) (κ : T13 → Option Res) : Option Res :=
  chk8 (if decide ((a0.2.2.2.2.length : Int) > (0 : Int)) = true then
    (if (true && (true && decide ((0 : Int) < (a0.2.2.2.2.length : Int)))) = true then
     (chk1 (if (true && (true && decide ((0 : Int) < (a0.2.2.2.2.length : Int)))) = true then
       (if (((a0.2.2.2.2.getD (0 : Int).toNat ((0 : Int), ((0 : Int), ((⟨#[]⟩ : ByteArray), false)))).2).2).2 = true then
        (chk4 (if (true && (decide ((0 : Int) ≤ (Int.tmod (bits .and .i64 a0.2.2.2.1 (255 : Int)) (3 : Int))) && decide ((Int.tmod (bits .and .i64 a0.2.2.2.1 (255 : Int)) (3 : Int)) < (([(⟨#[65]⟩ : ByteArray), (⟨#[66]⟩ : ByteArray), (⟨#[67]⟩ : ByteArray)] : List ByteArray).length : Int)))) = true then
          (chk6 (if (true && (decide ((0 : Int) ≤ (Int.tmod (a0.2.1.size : Int) (3 : Int))) && decide ((Int.tmod (a0.2.1.size : Int) (3 : Int)) < (([(⟨#[107]⟩ : ByteArray), (⟨#[108]⟩ : ByteArray), (⟨#[109]⟩ : ByteArray)] : List ByteArray).length : Int)))) = true then
            (chk8 (chk8 (chk4 (if ((Int.tmod (bits .and .i64 a0.2.2.2.1 (255 : Int)) (3 : Int)) == (2 : Int)) = true then
                (chk8 (chk3 (κ ((([(⟨#[65]⟩ : ByteArray), (⟨#[66]⟩ : ByteArray), (⟨#[67]⟩ : ByteArray)] : List ByteArray).getD (Int.tmod (bits .and .i64 a0.2.2.2.1 (255 : Int)) (3 : Int)).toNat (⟨#[]⟩ : ByteArray)), ((([(⟨#[107]⟩ : ByteArray), (⟨#[108]⟩ : ByteArray), (⟨#[109]⟩ : ByteArray)] : List ByteArray).getD (Int.tmod (a0.2.1.size : Int) (3 : Int)).toNat (⟨#[]⟩ : ByteArray)), ((bits .and .i64 a0.2.2.1 (15 : Int)), ((0 : Int), ([((2 : Int), ((0 : Int), ((⟨#[118]⟩ : ByteArray), false))), ((1 : Int), ((bits .and .i64 (((a0.2.2.2.2.getD (0 : Int).toNat ((0 : Int), ((0 : Int), ((⟨#[]⟩ : ByteArray), false)))).2).1) (3 : Int)), ((⟨#[]⟩ : ByteArray), false))), ((3 : Int), ((0 : Int), ((⟨#[]⟩ : ByteArray), decide ((bits .and .i64 a0.2.2.1 (64 : Int)) > (0 : Int)))))] : List T2))))))))
               else
                (chk7 (κ ((([(⟨#[65]⟩ : ByteArray), (⟨#[66]⟩ : ByteArray), (⟨#[67]⟩ : ByteArray)] : List ByteArray).getD (Int.tmod (bits .and .i64 a0.2.2.2.1 (255 : Int)) (3 : Int)).toNat (⟨#[]⟩ : ByteArray)), ((([(⟨#[107]⟩ : ByteArray), (⟨#[108]⟩ : ByteArray), (⟨#[109]⟩ : ByteArray)] : List ByteArray).getD (Int.tmod (a0.2.1.size : Int) (3 : Int)).toNat (⟨#[]⟩ : ByteArray)), ((bits .and .i64 a0.2.2.1 (15 : Int)), ((0 : Int), ([((1 : Int), ((bits .and .i64 (((a0.2.2.2.2.getD (0 : Int).toNat ((0 : Int), ((0 : Int), ((⟨#[]⟩ : ByteArray), false)))).2).1) (3 : Int)), ((⟨#[]⟩ : ByteArray), false))), ((2 : Int), ((0 : Int), ((⟨#[118]⟩ : ByteArray), false)))] : List T2)))))))))))
           else
            (none)))
         else
          (none)))
       else
        (chk4 (if (true && (decide ((0 : Int) ≤ (Int.tmod (bits .and .i64 a0.2.2.2.1 (255 : Int)) (3 : Int))) && decide ((Int.tmod (bits .and .i64 a0.2.2.2.1 (255 : Int)) (3 : Int)) < (([(⟨#[65]⟩ : ByteArray), (⟨#[66]⟩ : ByteArray), (⟨#[67]⟩ : ByteArray)] : List ByteArray).length : Int)))) = true then
          (chk6 (if (true && (decide ((0 : Int) ≤ (Int.tmod (a0.2.1.size : Int) (3 : Int))) && decide ((Int.tmod (a0.2.1.size : Int) (3 : Int)) < (([(⟨#[107]⟩ : ByteArray), (⟨#[108]⟩ : ByteArray), (⟨#[109]⟩ : ByteArray)] : List ByteArray).length : Int)))) = true then
            (chk8 (chk8 (chk4 (if ((Int.tmod (bits .and .i64 a0.2.2.2.1 (255 : Int)) (3 : Int)) == (2 : Int)) = true then
                (chk8 (chk3 (κ ((([(⟨#[65]⟩ : ByteArray), (⟨#[66]⟩ : ByteArray), (⟨#[67]⟩ : ByteArray)] : List ByteArray).getD (Int.tmod (bits .and .i64 a0.2.2.2.1 (255 : Int)) (3 : Int)).toNat (⟨#[]⟩ : ByteArray)), ((([(⟨#[107]⟩ : ByteArray), (⟨#[108]⟩ : ByteArray), (⟨#[109]⟩ : ByteArray)] : List ByteArray).getD (Int.tmod (a0.2.1.size : Int) (3 : Int)).toNat (⟨#[]⟩ : ByteArray)), ((bits .and .i64 a0.2.2.1 (15 : Int)), ((0 : Int), ([((2 : Int), ((0 : Int), ((⟨#[117]⟩ : ByteArray), false))), ((1 : Int), ((bits .and .i64 (((a0.2.2.2.2.getD (0 : Int).toNat ((0 : Int), ((0 : Int), ((⟨#[]⟩ : ByteArray), false)))).2).1) (3 : Int)), ((⟨#[]⟩ : ByteArray), false))), ((3 : Int), ((0 : Int), ((⟨#[]⟩ : ByteArray), decide ((bits .and .i64 a0.2.2.1 (64 : Int)) > (0 : Int)))))] : List T2))))))))
               else
                (chk7 (κ ((([(⟨#[65]⟩ : ByteArray), (⟨#[66]⟩ : ByteArray), (⟨#[67]⟩ : ByteArray)] : List ByteArray).getD (Int.tmod (bits .and .i64 a0.2.2.2.1 (255 : Int)) (3 : Int)).toNat (⟨#[]⟩ : ByteArray)), ((([(⟨#[107]⟩ : ByteArray), (⟨#[108]⟩ : ByteArray), (⟨#[109]⟩ : ByteArray)] : List ByteArray).getD (Int.tmod (a0.2.1.size : Int) (3 : Int)).toNat (⟨#[]⟩ : ByteArray)), ((bits .and .i64 a0.2.2.1 (15 : Int)), ((0 : Int), ([((1 : Int), ((bits .and .i64 (((a0.2.2.2.2.getD (0 : Int).toNat ((0 : Int), ((0 : Int), ((⟨#[]⟩ : ByteArray), false)))).2).1) (3 : Int)), ((⟨#[]⟩ : ByteArray), false))), ((2 : Int), ((0 : Int), ((⟨#[117]⟩ : ByteArray), false)))] : List T2)))))))))))
           else
            (none)))
         else
          (none))))
      else
       (none)))
    else
     (none))
   else
    (chk4 (if (true && (decide ((0 : Int) ≤ (Int.tmod (bits .and .i64 a0.2.2.2.1 (255 : Int)) (3 : Int))) && decide ((Int.tmod (bits .and .i64 a0.2.2.2.1 (255 : Int)) (3 : Int)) < (([(⟨#[65]⟩ : ByteArray), (⟨#[66]⟩ : ByteArray), (⟨#[67]⟩ : ByteArray)] : List ByteArray).length : Int)))) = true then
      (chk6 (if (true && (decide ((0 : Int) ≤ (Int.tmod (a0.2.1.size : Int) (3 : Int))) && decide ((Int.tmod (a0.2.1.size : Int) (3 : Int)) < (([(⟨#[107]⟩ : ByteArray), (⟨#[108]⟩ : ByteArray), (⟨#[109]⟩ : ByteArray)] : List ByteArray).length : Int)))) = true then
        (chk8 (chk8 (chk4 (if ((Int.tmod (bits .and .i64 a0.2.2.2.1 (255 : Int)) (3 : Int)) == (2 : Int)) = true then
            (chk8 (chk3 (κ ((([(⟨#[65]⟩ : ByteArray), (⟨#[66]⟩ : ByteArray), (⟨#[67]⟩ : ByteArray)] : List ByteArray).getD (Int.tmod (bits .and .i64 a0.2.2.2.1 (255 : Int)) (3 : Int)).toNat (⟨#[]⟩ : ByteArray)), ((([(⟨#[107]⟩ : ByteArray), (⟨#[108]⟩ : ByteArray), (⟨#[109]⟩ : ByteArray)] : List ByteArray).getD (Int.tmod (a0.2.1.size : Int) (3 : Int)).toNat (⟨#[]⟩ : ByteArray)), ((bits .and .i64 a0.2.2.1 (15 : Int)), ((0 : Int), ([((2 : Int), ((0 : Int), ((⟨#[117]⟩ : ByteArray), false))), ((1 : Int), ((0 : Int), ((⟨#[]⟩ : ByteArray), false))), ((3 : Int), ((0 : Int), ((⟨#[]⟩ : ByteArray), decide ((bits .and .i64 a0.2.2.1 (64 : Int)) > (0 : Int)))))] : List T2))))))))
           else
            (chk7 (κ ((([(⟨#[65]⟩ : ByteArray), (⟨#[66]⟩ : ByteArray), (⟨#[67]⟩ : ByteArray)] : List ByteArray).getD (Int.tmod (bits .and .i64 a0.2.2.2.1 (255 : Int)) (3 : Int)).toNat (⟨#[]⟩ : ByteArray)), ((([(⟨#[107]⟩ : ByteArray), (⟨#[108]⟩ : ByteArray), (⟨#[109]⟩ : ByteArray)] : List ByteArray).getD (Int.tmod (a0.2.1.size : Int) (3 : Int)).toNat (⟨#[]⟩ : ByteArray)), ((bits .and .i64 a0.2.2.1 (15 : Int)), ((0 : Int), ([((1 : Int), ((0 : Int), ((⟨#[]⟩ : ByteArray), false))), ((2 : Int), ((0 : Int), ((⟨#[117]⟩ : ByteArray), false)))] : List T2)))))))))))
       else
        (none)))
     else
      (none))))
/-- lamplighter/lamplighterref03.Event -/
def F30 : Nat → T13 → (T13 → Option Res) → Option Res
  | 0, _, _ => none
  | k + 1, a0, κ => F30_B  a0 κ
def F30_s : List SC := [.agg [.str, .str, .int .i64, .int .i64, .list (.pair (.int .i64) (.pair (.int .i64) (.pair .str .bool))) .no]]
def F30_b : List (List SC) := []
def F30_m (g : T13 → (T13 → Option Res) → Option Res) (cf : CallF) : CallF := fun f args lent κ => match Nat.beq f 30 with
  | true => match okC F30_s args && okB F30_b lent with
    | true => g ((stringOf (nth (aggOf (nth args 0)) 0)), ((stringOf (nth (aggOf (nth args 0)) 1)), ((intOf (nth (aggOf (nth args 0)) 2)), ((intOf (nth (aggOf (nth args 0)) 3)), (listOf (.pair (.int .i64) (.pair (.int .i64) (.pair .str .bool))) (nth (aggOf (nth args 0)) 4)))))) (fun x => κ ((.agg [.str x.1, .str x.2.1, .int .i64 x.2.2.1, .int .i64 x.2.2.2.1, .list (.pair (.int .i64) (.pair (.int .i64) (.pair .str .bool))) x.2.2.2.2 (.own false false)], []) : Res))
    | false => cf f args lent κ
  | false => cf f args lent κ
theorem F30_d (k : Nat) (h : ∀ (a0 : T13) (κ : Res → Option Res), (ev Try.prog cfg k).call 30 [.agg [.str a0.1, .str a0.2.1, .int .i64 a0.2.2.1, .int .i64 a0.2.2.2.1, .list (.pair (.int .i64) (.pair (.int .i64) (.pair .str .bool))) a0.2.2.2.2 .no]] [] κ = F30 k a0 (fun x => κ ((.agg [.str x.1, .str x.2.1, .int .i64 x.2.2.1, .int .i64 x.2.2.2.1, .list (.pair (.int .i64) (.pair (.int .i64) (.pair .str .bool))) x.2.2.2.2 (.own false false)], []) : Res))) : F30_m (F30 k) (ev Try.prog cfg k).call = (ev Try.prog cfg k).call := by
  funext f args lent κ
  unfold F30_m
  split
  · rename_i hp
    split
    · rename_i hs
      rw [Bool.and_eq_true] at hs
      have e : mkC F30_s 0 args = [.agg [.str (stringOf (nth (aggOf (nth args 0)) 0)), .str (stringOf (nth (aggOf (nth args 0)) 1)), .int .i64 (intOf (nth (aggOf (nth args 0)) 2)), .int .i64 (intOf (nth (aggOf (nth args 0)) 3)), .list (.pair (.int .i64) (.pair (.int .i64) (.pair .str .bool))) (listOf (.pair (.int .i64) (.pair (.int .i64) (.pair .str .bool))) (nth (aggOf (nth args 0)) 4)) .no]] := by kernel_rfl
      have e' : mkB F30_b 0 lent = [] := by kernel_rfl
      obtain rfl := Nat.eq_of_beq_eq_true hp
      exact (h ((stringOf (nth (aggOf (nth args 0)) 0)), ((stringOf (nth (aggOf (nth args 0)) 1)), ((intOf (nth (aggOf (nth args 0)) 2)), ((intOf (nth (aggOf (nth args 0)) 3)), (listOf (.pair (.int .i64) (.pair (.int .i64) (.pair .str .bool))) (nth (aggOf (nth args 0)) 4)))))) κ).symm.trans (cong2 (fun a l => (ev Try.prog cfg k).call 30 a l κ) (e.symm.trans (okC_eq hs.1).symm) (e'.symm.trans (okB_eq hs.2).symm))
    · rfl
  · rfl
theorem F30_k  (cf : CallF) (lf : LoopF) (a0 : T13) (κ : Res → Option Res) : evFn Try.prog cfg cf lf 30 [.agg [.str a0.1, .str a0.2.1, .int .i64 a0.2.2.1, .int .i64 a0.2.2.2.1, .list (.pair (.int .i64) (.pair (.int .i64) (.pair .str .bool))) a0.2.2.2.2 .no]] [] κ = F30_B  a0 (fun x => κ ((.agg [.str x.1, .str x.2.1, .int .i64 x.2.2.1, .int .i64 x.2.2.2.1, .list (.pair (.int .i64) (.pair (.int .i64) (.pair .str .bool))) x.2.2.2.2 (.own false false)], []) : Res)) := by
  kernel_rfl
theorem F30_ev : ∀ (k : Nat) (a0 : T13) (κ : Res → Option Res), (ev Try.prog cfg k).call 30 [.agg [.str a0.1, .str a0.2.1, .int .i64 a0.2.2.1, .int .i64 a0.2.2.2.1, .list (.pair (.int .i64) (.pair (.int .i64) (.pair .str .bool))) a0.2.2.2.2 .no]] [] κ = F30 k a0 (fun x => κ ((.agg [.str x.1, .str x.2.1, .int .i64 x.2.2.1, .int .i64 x.2.2.2.1, .list (.pair (.int .i64) (.pair (.int .i64) (.pair .str .bool))) x.2.2.2.2 (.own false false)], []) : Res)) := by
  intro k
  induction k with
  | zero => intros; rfl
  | succ k ih =>
    intro a0 κ
    refine (ev_call' Try.prog cfg k 30 0 _ _ κ (by rfl)).trans ?_
    skip
    exact F30_k  _ _ a0 κ
def F14_B (gF14 : tF14) (a0 : Int) (κ : ByteArray → Option Res) : Option Res :=
  chk1 (if decide (a0 < (128 : Int)) = true then
    (chk4 (κ (strOf ([(IntKind.wrap .u8 (a0))] : List Int))))
   else
    (chk8 (gF14 (IntKind.wrap .u64 (Int.tdiv a0 (128 : Int))) fun x1 =>
     chk1 (if decide ((strOf ([(IntKind.wrap .u8 ((IntKind.wrap .u8 ((Int.tmod a0 (128 : Int)))) + (128 : Int)))] : List Int)).size + x1.size ≤ 9223372036854775807) = true then κ ((strOf ([(IntKind.wrap .u8 ((IntKind.wrap .u8 ((Int.tmod a0 (128 : Int)))) + (128 : Int)))] : List Int)) ++ x1) else none))))
/-- lamplighter/lamplighterref53.Uint -/
def F14 : Nat → Int → (ByteArray → Option Res) → Option Res
  | 0, _, _ => none
  | k + 1, a0, κ => F14_B (fun a0 κ => F14 k a0 κ) a0 κ
def F14_s : List SC := [.one (.int .u64)]
def F14_b : List (List SC) := []
def F14_m (g : Int → (ByteArray → Option Res) → Option Res) (cf : CallF) : CallF := fun f args lent κ => match Nat.beq f 14 with
  | true => match okC F14_s args && okB F14_b lent with
    | true => g (intOf (nth args 0)) (fun x => κ ((.str x, []) : Res))
    | false => cf f args lent κ
  | false => cf f args lent κ
theorem F14_d (k : Nat) (h : ∀ (a0 : Int) (κ : Res → Option Res), (ev Try.prog cfg k).call 14 [.int .u64 a0] [] κ = F14 k a0 (fun x => κ ((.str x, []) : Res))) : F14_m (F14 k) (ev Try.prog cfg k).call = (ev Try.prog cfg k).call := by
  funext f args lent κ
  unfold F14_m
  split
  · rename_i hp
    split
    · rename_i hs
      rw [Bool.and_eq_true] at hs
      have e : mkC F14_s 0 args = [.int .u64 (intOf (nth args 0))] := by kernel_rfl
      have e' : mkB F14_b 0 lent = [] := by kernel_rfl
      obtain rfl := Nat.eq_of_beq_eq_true hp
      exact (h (intOf (nth args 0)) κ).symm.trans (cong2 (fun a l => (ev Try.prog cfg k).call 14 a l κ) (e.symm.trans (okC_eq hs.1).symm) (e'.symm.trans (okB_eq hs.2).symm))
    · rfl
  · rfl
theorem F14_k (gF14 : tF14) (cf : CallF) (lf : LoopF) (a0 : Int) (κ : Res → Option Res) : evFn Try.prog cfg (F14_m gF14 cf) lf 14 [.int .u64 a0] [] κ = F14_B gF14 a0 (fun x => κ ((.str x, []) : Res)) := by
  kernel_rfl
theorem F14_ev : ∀ (k : Nat) (a0 : Int) (κ : Res → Option Res), (ev Try.prog cfg k).call 14 [.int .u64 a0] [] κ = F14 k a0 (fun x => κ ((.str x, []) : Res)) := by
  intro k
  induction k with
  | zero => intros; rfl
  | succ k ih =>
    intro a0 κ
    refine (ev_call' Try.prog cfg k 14 0 _ _ κ (by rfl)).trans ?_
    rw [← F14_d k ih]
    exact F14_k _ _ _ a0 κ
def F18_B (gF14 : tF14) (a0 : ByteArray) (κ : ByteArray → Option Res) : Option Res :=
  chk3 (gF14 (IntKind.wrap .u64 ((a0.size : Int))) fun x1 =>
   chk1 (if decide (x1.size + a0.size ≤ 9223372036854775807) = true then κ (x1 ++ a0) else none))
/-- lamplighter/lamplighterref53.Text -/
def F18 : Nat → ByteArray → (ByteArray → Option Res) → Option Res
  | 0, _, _ => none
  | k + 1, a0, κ => F18_B (F14 k) a0 κ
def F18_s : List SC := [.one .str]
def F18_b : List (List SC) := []
def F18_m (g : ByteArray → (ByteArray → Option Res) → Option Res) (cf : CallF) : CallF := fun f args lent κ => match Nat.beq f 18 with
  | true => match okC F18_s args && okB F18_b lent with
    | true => g (stringOf (nth args 0)) (fun x => κ ((.str x, []) : Res))
    | false => cf f args lent κ
  | false => cf f args lent κ
theorem F18_d (k : Nat) (h : ∀ (a0 : ByteArray) (κ : Res → Option Res), (ev Try.prog cfg k).call 18 [.str a0] [] κ = F18 k a0 (fun x => κ ((.str x, []) : Res))) : F18_m (F18 k) (ev Try.prog cfg k).call = (ev Try.prog cfg k).call := by
  funext f args lent κ
  unfold F18_m
  split
  · rename_i hp
    split
    · rename_i hs
      rw [Bool.and_eq_true] at hs
      have e : mkC F18_s 0 args = [.str (stringOf (nth args 0))] := by kernel_rfl
      have e' : mkB F18_b 0 lent = [] := by kernel_rfl
      obtain rfl := Nat.eq_of_beq_eq_true hp
      exact (h (stringOf (nth args 0)) κ).symm.trans (cong2 (fun a l => (ev Try.prog cfg k).call 18 a l κ) (e.symm.trans (okC_eq hs.1).symm) (e'.symm.trans (okB_eq hs.2).symm))
    · rfl
  · rfl
theorem F18_k (gF14 : tF14) (cf : CallF) (lf : LoopF) (a0 : ByteArray) (κ : Res → Option Res) : evFn Try.prog cfg (F14_m gF14 cf) lf 18 [.str a0] [] κ = F18_B gF14 a0 (fun x => κ ((.str x, []) : Res)) := by
  kernel_rfl
theorem F18_ev : ∀ (k : Nat) (a0 : ByteArray) (κ : Res → Option Res), (ev Try.prog cfg k).call 18 [.str a0] [] κ = F18 k a0 (fun x => κ ((.str x, []) : Res)) := by
  intro k
  induction k with
  | zero => intros; rfl
  | succ k ih =>
    intro a0 κ
    refine (ev_call' Try.prog cfg k 18 0 _ _ κ (by rfl)).trans ?_
    rw [← F14_d k (F14_ev k)]
    exact F18_k _ _ _ a0 κ
def F16_B (gF14 : tF14) (a0 : Int) (κ : ByteArray → Option Res) : Option Res :=
  chk1 (if decide (a0 ≥ (0 : Int)) = true then
    (chk3 (gF14 (IntKind.wrap .u64 ((2 : Int) * (IntKind.wrap .u64 (a0)))) fun x1 =>
     chk1 (κ x1)))
   else
    (chk5 (gF14 (IntKind.wrap .u64 ((IntKind.wrap .u64 ((2 : Int) * (IntKind.wrap .u64 ((IntKind.wrap .i64 (0 - (IntKind.wrap .i64 (a0 + (1 : Int))))))))) + (1 : Int))) fun x2 =>
     chk1 (κ x2))))
/-- lamplighter/lamplighterref53.Int -/
def F16 : Nat → Int → (ByteArray → Option Res) → Option Res
  | 0, _, _ => none
  | k + 1, a0, κ => F16_B (F14 k) a0 κ
def F16_s : List SC := [.one (.int .i64)]
def F16_b : List (List SC) := []
def F16_m (g : Int → (ByteArray → Option Res) → Option Res) (cf : CallF) : CallF := fun f args lent κ => match Nat.beq f 16 with
  | true => match okC F16_s args && okB F16_b lent with
    | true => g (intOf (nth args 0)) (fun x => κ ((.str x, []) : Res))
    | false => cf f args lent κ
  | false => cf f args lent κ
theorem F16_d (k : Nat) (h : ∀ (a0 : Int) (κ : Res → Option Res), (ev Try.prog cfg k).call 16 [.int .i64 a0] [] κ = F16 k a0 (fun x => κ ((.str x, []) : Res))) : F16_m (F16 k) (ev Try.prog cfg k).call = (ev Try.prog cfg k).call := by
  funext f args lent κ
  unfold F16_m
  split
  · rename_i hp
    split
    · rename_i hs
      rw [Bool.and_eq_true] at hs
      have e : mkC F16_s 0 args = [.int .i64 (intOf (nth args 0))] := by kernel_rfl
      have e' : mkB F16_b 0 lent = [] := by kernel_rfl
      obtain rfl := Nat.eq_of_beq_eq_true hp
      exact (h (intOf (nth args 0)) κ).symm.trans (cong2 (fun a l => (ev Try.prog cfg k).call 16 a l κ) (e.symm.trans (okC_eq hs.1).symm) (e'.symm.trans (okB_eq hs.2).symm))
    · rfl
  · rfl
theorem F16_k (gF14 : tF14) (cf : CallF) (lf : LoopF) (a0 : Int) (κ : Res → Option Res) : evFn Try.prog cfg (F14_m gF14 cf) lf 16 [.int .i64 a0] [] κ = F16_B gF14 a0 (fun x => κ ((.str x, []) : Res)) := by
  kernel_rfl
theorem F16_ev : ∀ (k : Nat) (a0 : Int) (κ : Res → Option Res), (ev Try.prog cfg k).call 16 [.int .i64 a0] [] κ = F16 k a0 (fun x => κ ((.str x, []) : Res)) := by
  intro k
  induction k with
  | zero => intros; rfl
  | succ k ih =>
    intro a0 κ
    refine (ev_call' Try.prog cfg k 16 0 _ _ κ (by rfl)).trans ?_
    rw [← F14_d k (F14_ev k)]
    exact F16_k _ _ _ a0 κ
def F20_B  (a0 : Bool) (κ : ByteArray → Option Res) : Option Res :=
  if a0 = true then
   (κ (⟨#[1]⟩ : ByteArray))
  else
   (κ (⟨#[0]⟩ : ByteArray))
/-- lamplighter/lamplighterref53.Truth -/
def F20 : Nat → Bool → (ByteArray → Option Res) → Option Res
  | 0, _, _ => none
  | k + 1, a0, κ => F20_B  a0 κ
def F20_s : List SC := [.one .bool]
def F20_b : List (List SC) := []
def F20_m (g : Bool → (ByteArray → Option Res) → Option Res) (cf : CallF) : CallF := fun f args lent κ => match Nat.beq f 20 with
  | true => match okC F20_s args && okB F20_b lent with
    | true => g (boolOf (nth args 0)) (fun x => κ ((.str x, []) : Res))
    | false => cf f args lent κ
  | false => cf f args lent κ
theorem F20_d (k : Nat) (h : ∀ (a0 : Bool) (κ : Res → Option Res), (ev Try.prog cfg k).call 20 [.bool a0] [] κ = F20 k a0 (fun x => κ ((.str x, []) : Res))) : F20_m (F20 k) (ev Try.prog cfg k).call = (ev Try.prog cfg k).call := by
  funext f args lent κ
  unfold F20_m
  split
  · rename_i hp
    split
    · rename_i hs
      rw [Bool.and_eq_true] at hs
      have e : mkC F20_s 0 args = [.bool (boolOf (nth args 0))] := by kernel_rfl
      have e' : mkB F20_b 0 lent = [] := by kernel_rfl
      obtain rfl := Nat.eq_of_beq_eq_true hp
      exact (h (boolOf (nth args 0)) κ).symm.trans (cong2 (fun a l => (ev Try.prog cfg k).call 20 a l κ) (e.symm.trans (okC_eq hs.1).symm) (e'.symm.trans (okB_eq hs.2).symm))
    · rfl
  · rfl
theorem F20_k  (cf : CallF) (lf : LoopF) (a0 : Bool) (κ : Res → Option Res) : evFn Try.prog cfg cf lf 20 [.bool a0] [] κ = F20_B  a0 (fun x => κ ((.str x, []) : Res)) := by
  kernel_rfl
theorem F20_ev : ∀ (k : Nat) (a0 : Bool) (κ : Res → Option Res), (ev Try.prog cfg k).call 20 [.bool a0] [] κ = F20 k a0 (fun x => κ ((.str x, []) : Res)) := by
  intro k
  induction k with
  | zero => intros; rfl
  | succ k ih =>
    intro a0 κ
    refine (ev_call' Try.prog cfg k 20 0 _ _ κ (by rfl)).trans ?_
    skip
    exact F20_k  _ _ a0 κ
def F85_B (gF16 : tF16) (gF18 : tF18) (gF20 : tF20) (gF14 : tF14) (a0 : T2) (κ : ByteArray → Option Res) : Option Res :=
  chk2 (if (a0.1 == (1 : Int)) = true then
    (chk1 (gF16 a0.2.1 fun x1 =>
     chk1 (if decide ((⟨#[1]⟩ : ByteArray).size + x1.size ≤ 9223372036854775807) = true then κ ((⟨#[1]⟩ : ByteArray) ++ x1) else none)))
   else
    (chk1 (if (a0.1 == (2 : Int)) = true then
      (chk1 (gF18 a0.2.2.1 fun x2 =>
       chk1 (if decide ((⟨#[2]⟩ : ByteArray).size + x2.size ≤ 9223372036854775807) = true then κ ((⟨#[2]⟩ : ByteArray) ++ x2) else none)))
     else
      (chk1 (if (a0.1 == (3 : Int)) = true then
        (chk1 (gF20 a0.2.2.2 fun x3 =>
         chk1 (if decide ((⟨#[3]⟩ : ByteArray).size + x3.size ≤ 9223372036854775807) = true then κ ((⟨#[3]⟩ : ByteArray) ++ x3) else none)))
       else
        (chk2 (gF14 (IntKind.wrap .u64 (a0.1)) fun x4 =>
         chk1 (κ x4))))))))
/-- lamplighter/lamplighterref53.Value -/
def F85 : Nat → T2 → (ByteArray → Option Res) → Option Res
  | 0, _, _ => none
  | k + 1, a0, κ => F85_B (F16 k) (F18 k) (F20 k) (F14 k) a0 κ
def F85_s : List SC := [.agg [.int .i64, .int .i64, .str, .bool]]
def F85_b : List (List SC) := []
def F85_m (g : T2 → (ByteArray → Option Res) → Option Res) (cf : CallF) : CallF := fun f args lent κ => match Nat.beq f 85 with
  | true => match okC F85_s args && okB F85_b lent with
    | true => g ((intOf (nth (aggOf (nth args 0)) 0)), ((intOf (nth (aggOf (nth args 0)) 1)), ((stringOf (nth (aggOf (nth args 0)) 2)), (boolOf (nth (aggOf (nth args 0)) 3))))) (fun x => κ ((.str x, []) : Res))
    | false => cf f args lent κ
  | false => cf f args lent κ
theorem F85_d (k : Nat) (h : ∀ (a0 : T2) (κ : Res → Option Res), (ev Try.prog cfg k).call 85 [.agg [.int .i64 a0.1, .int .i64 a0.2.1, .str a0.2.2.1, .bool a0.2.2.2]] [] κ = F85 k a0 (fun x => κ ((.str x, []) : Res))) : F85_m (F85 k) (ev Try.prog cfg k).call = (ev Try.prog cfg k).call := by
  funext f args lent κ
  unfold F85_m
  split
  · rename_i hp
    split
    · rename_i hs
      rw [Bool.and_eq_true] at hs
      have e : mkC F85_s 0 args = [.agg [.int .i64 (intOf (nth (aggOf (nth args 0)) 0)), .int .i64 (intOf (nth (aggOf (nth args 0)) 1)), .str (stringOf (nth (aggOf (nth args 0)) 2)), .bool (boolOf (nth (aggOf (nth args 0)) 3))]] := by kernel_rfl
      have e' : mkB F85_b 0 lent = [] := by kernel_rfl
      obtain rfl := Nat.eq_of_beq_eq_true hp
      exact (h ((intOf (nth (aggOf (nth args 0)) 0)), ((intOf (nth (aggOf (nth args 0)) 1)), ((stringOf (nth (aggOf (nth args 0)) 2)), (boolOf (nth (aggOf (nth args 0)) 3))))) κ).symm.trans (cong2 (fun a l => (ev Try.prog cfg k).call 85 a l κ) (e.symm.trans (okC_eq hs.1).symm) (e'.symm.trans (okB_eq hs.2).symm))
    · rfl
  · rfl
theorem F85_k (gF16 : tF16) (gF18 : tF18) (gF20 : tF20) (gF14 : tF14) (cf : CallF) (lf : LoopF) (a0 : T2) (κ : Res → Option Res) : evFn Try.prog cfg (F16_m gF16 (F18_m gF18 (F20_m gF20 (F14_m gF14 cf)))) lf 85 [.agg [.int .i64 a0.1, .int .i64 a0.2.1, .str a0.2.2.1, .bool a0.2.2.2]] [] κ = F85_B gF16 gF18 gF20 gF14 a0 (fun x => κ ((.str x, []) : Res)) := by
  kernel_rfl
theorem F85_ev : ∀ (k : Nat) (a0 : T2) (κ : Res → Option Res), (ev Try.prog cfg k).call 85 [.agg [.int .i64 a0.1, .int .i64 a0.2.1, .str a0.2.2.1, .bool a0.2.2.2]] [] κ = F85 k a0 (fun x => κ ((.str x, []) : Res)) := by
  intro k
  induction k with
  | zero => intros; rfl
  | succ k ih =>
    intro a0 κ
    refine (ev_call' Try.prog cfg k 85 0 _ _ κ (by rfl)).trans ?_
    rw [← F16_d k (F16_ev k), ← F18_d k (F18_ev k), ← F20_d k (F20_ev k), ← F14_d k (F14_ev k)]
    exact F85_k _ _ _ _ _ _ a0 κ
def L33_0_B (gF85 : tF85) (gL33_0 : tL33_0) (κ : ByteArray → Option Res) (p0 : ByteArray) (p1 : Int) (p2 : ByteArray) (p3 : ByteArray) (p4 : Int) (p5 : Int) (p6 : T4) (K : ByteArray × Int → Option Res) : Option Res :=
  chk2 (if decide (p1 < (p6.length : Int)) = true then
    (if (true && (decide ((0 : Int) ≤ p1) && decide (p1 < (p6.length : Int)))) = true then
     (chk1 (gF85 ((p6.getD p1.toNat ((0 : Int), ((0 : Int), ((⟨#[]⟩ : ByteArray), false)))).1, (((p6.getD p1.toNat ((0 : Int), ((0 : Int), ((⟨#[]⟩ : ByteArray), false)))).2).1, (((p6.getD p1.toNat ((0 : Int), ((0 : Int), ((⟨#[]⟩ : ByteArray), false)))).2).2))) fun x6 =>
      chk1 (if decide (p0.size + x6.size ≤ 9223372036854775807) = true then chk1 (gL33_0 (p0 ++ x6) (IntKind.wrap .i64 (p1 + (1 : Int))) p2 p3 p4 p5 p6 K) else none)))
    else
     (none))
   else
    (K (p0, p1)))
def L33_0 : Nat → (ByteArray → Option Res) → ByteArray → Int → ByteArray → ByteArray → Int → Int → T4 → (ByteArray × Int → Option Res) → Option Res
  | 0, _, _, _, _, _, _, _, _, _ => none
  | k + 1, κ, p0, p1, p2, p3, p4, p5, p6, K => L33_0_B (F85 k) (fun p0 p1 p2 p3 p4 p5 p6 K => L33_0 k κ p0 p1 p2 p3 p4 p5 p6 K) κ p0 p1 p2 p3 p4 p5 p6 K
def L33_0_s : Tr SC := Tr.of (nthD (.one .undef) [.one .undef, .one (.ref 1 0), .one .undef, .one .str, .one (.int .i64)]) 6
def L33_0_b : Tr (List SC) := Tr.of (nthD [] [[], [.one .str, .one .str, .one (.int .i64), .one (.int .i64), .one (.list (.pair (.int .i64) (.pair (.int .i64) (.pair .str .bool))) .no)]]) 6
def L33_0_m (g : ByteArray → Int → ByteArray → ByteArray → Int → Int → T4 → (ByteArray × Int → Option Res) → Option Res) (lf : LoopF) : LoopF := fun p σ K => match pathEq p [true, true, false, true, false] with
  | true => match okSt 42 L33_0_s L33_0_b σ with
    | true => g (stringOf (Tr.val .undef (Tr.lft (Tr.lft σ.slots)))) (intOf (Tr.val .undef (Tr.lft (Tr.rgt σ.slots)))) (stringOf (nth (Tr.val [] (Tr.lft σ.boxes)) 0)) (stringOf (nth (Tr.val [] (Tr.lft σ.boxes)) 1)) (intOf (nth (Tr.val [] (Tr.lft σ.boxes)) 2)) (intOf (nth (Tr.val [] (Tr.lft σ.boxes)) 3)) (listOf (.pair (.int .i64) (.pair (.int .i64) (.pair .str .bool))) (nth (Tr.val [] (Tr.lft σ.boxes)) 4)) (fun v => K (.exit 0) ⟨42, Tr.of (nthD .undef [.undef, .ref 1 0, .undef, .str v.1, .int .i64 v.2]) 6, Tr.of (nthD [] [[], [.str (stringOf (nth (Tr.val [] (Tr.lft σ.boxes)) 0)), .str (stringOf (nth (Tr.val [] (Tr.lft σ.boxes)) 1)), .int .i64 (intOf (nth (Tr.val [] (Tr.lft σ.boxes)) 2)), .int .i64 (intOf (nth (Tr.val [] (Tr.lft σ.boxes)) 3)), .list (.pair (.int .i64) (.pair (.int .i64) (.pair .str .bool))) (listOf (.pair (.int .i64) (.pair (.int .i64) (.pair .str .bool))) (nth (Tr.val [] (Tr.lft σ.boxes)) 4)) .no]]) 6⟩)
    | false => lf p σ K
  | false => lf p σ K
theorem L33_0_d (k : Nat) (κ : Res → Option Res) (h : ∀ (p0 : ByteArray) (p1 : Int) (p2 : ByteArray) (p3 : ByteArray) (p4 : Int) (p5 : Int) (p6 : T4) (K : Cont), (ev Try.prog cfg k).loop 33 0 κ [true, true, false, true, false] ⟨42, Tr.of (nthD .undef [.undef, .ref 1 0, .undef, .str p0, .int .i64 p1]) 6, Tr.of (nthD [] [[], [.str p2, .str p3, .int .i64 p4, .int .i64 p5, .list (.pair (.int .i64) (.pair (.int .i64) (.pair .str .bool))) p6 .no]]) 6⟩ K = L33_0 k (fun x => κ ((.str x, []) : Res)) p0 p1 p2 p3 p4 p5 p6 (fun v => K (.exit 0) ⟨42, Tr.of (nthD .undef [.undef, .ref 1 0, .undef, .str v.1, .int .i64 v.2]) 6, Tr.of (nthD [] [[], [.str p2, .str p3, .int .i64 p4, .int .i64 p5, .list (.pair (.int .i64) (.pair (.int .i64) (.pair .str .bool))) p6 .no]]) 6⟩)) : L33_0_m (L33_0 k (fun x => κ ((.str x, []) : Res))) ((ev Try.prog cfg k).loop 33 0 κ) = (ev Try.prog cfg k).loop 33 0 κ := by
  funext p σ K
  unfold L33_0_m
  split
  · rename_i hp
    split
    · rename_i hs
      have e : mkSt 42 L33_0_s L33_0_b σ = ⟨42, Tr.of (nthD .undef [.undef, .ref 1 0, .undef, .str (stringOf (Tr.val .undef (Tr.lft (Tr.lft σ.slots)))), .int .i64 (intOf (Tr.val .undef (Tr.lft (Tr.rgt σ.slots))))]) 6, Tr.of (nthD [] [[], [.str (stringOf (nth (Tr.val [] (Tr.lft σ.boxes)) 0)), .str (stringOf (nth (Tr.val [] (Tr.lft σ.boxes)) 1)), .int .i64 (intOf (nth (Tr.val [] (Tr.lft σ.boxes)) 2)), .int .i64 (intOf (nth (Tr.val [] (Tr.lft σ.boxes)) 3)), .list (.pair (.int .i64) (.pair (.int .i64) (.pair .str .bool))) (listOf (.pair (.int .i64) (.pair (.int .i64) (.pair .str .bool))) (nth (Tr.val [] (Tr.lft σ.boxes)) 4)) .no]]) 6⟩ := by kernel_rfl
      rw [pathEq_eq hp]
      exact (h (stringOf (Tr.val .undef (Tr.lft (Tr.lft σ.slots)))) (intOf (Tr.val .undef (Tr.lft (Tr.rgt σ.slots)))) (stringOf (nth (Tr.val [] (Tr.lft σ.boxes)) 0)) (stringOf (nth (Tr.val [] (Tr.lft σ.boxes)) 1)) (intOf (nth (Tr.val [] (Tr.lft σ.boxes)) 2)) (intOf (nth (Tr.val [] (Tr.lft σ.boxes)) 3)) (listOf (.pair (.int .i64) (.pair (.int .i64) (.pair .str .bool))) (nth (Tr.val [] (Tr.lft σ.boxes)) 4)) K).symm.trans (congrArg (fun s => (ev Try.prog cfg k).loop 33 0 κ [true, true, false, true, false] s K) (e.symm.trans (okSt_eq hs).symm))
    · rfl
  · rfl
theorem L33_0_k (gF85 : tF85) (gL33_0 : tL33_0) (cf : CallF) (lf : LoopF) (κ : Res → Option Res) (p0 : ByteArray) (p1 : Int) (p2 : ByteArray) (p3 : ByteArray) (p4 : Int) (p5 : Int) (p6 : T4) (K : Cont) : evLp Try.prog cfg (F85_m gF85 cf) (L33_0_m gL33_0 lf) 33 0 κ [true, true, false, true, false] ⟨42, Tr.of (nthD .undef [.undef, .ref 1 0, .undef, .str p0, .int .i64 p1]) 6, Tr.of (nthD [] [[], [.str p2, .str p3, .int .i64 p4, .int .i64 p5, .list (.pair (.int .i64) (.pair (.int .i64) (.pair .str .bool))) p6 .no]]) 6⟩ K = L33_0_B gF85 gL33_0 (fun x => κ ((.str x, []) : Res)) p0 p1 p2 p3 p4 p5 p6 (fun v => K (.exit 0) ⟨42, Tr.of (nthD .undef [.undef, .ref 1 0, .undef, .str v.1, .int .i64 v.2]) 6, Tr.of (nthD [] [[], [.str p2, .str p3, .int .i64 p4, .int .i64 p5, .list (.pair (.int .i64) (.pair (.int .i64) (.pair .str .bool))) p6 .no]]) 6⟩) := by
  kernel_rfl
theorem L33_0_ev : ∀ (k : Nat) (κ : Res → Option Res) (p0 : ByteArray) (p1 : Int) (p2 : ByteArray) (p3 : ByteArray) (p4 : Int) (p5 : Int) (p6 : T4) (K : Cont), (ev Try.prog cfg k).loop 33 0 κ [true, true, false, true, false] ⟨42, Tr.of (nthD .undef [.undef, .ref 1 0, .undef, .str p0, .int .i64 p1]) 6, Tr.of (nthD [] [[], [.str p2, .str p3, .int .i64 p4, .int .i64 p5, .list (.pair (.int .i64) (.pair (.int .i64) (.pair .str .bool))) p6 .no]]) 6⟩ K = L33_0 k (fun x => κ ((.str x, []) : Res)) p0 p1 p2 p3 p4 p5 p6 (fun v => K (.exit 0) ⟨42, Tr.of (nthD .undef [.undef, .ref 1 0, .undef, .str v.1, .int .i64 v.2]) 6, Tr.of (nthD [] [[], [.str p2, .str p3, .int .i64 p4, .int .i64 p5, .list (.pair (.int .i64) (.pair (.int .i64) (.pair .str .bool))) p6 .no]]) 6⟩) := by
  intro k κ
  induction k with
  | zero => intro p0 p1 p2 p3 p4 p5 p6 K; rfl
  | succ k ih =>
    intro p0 p1 p2 p3 p4 p5 p6 K
    rw [ev_loop, ← F85_d k (F85_ev k), ← L33_0_d k κ ih]
    exact L33_0_k _ _ _ _ κ p0 p1 p2 p3 p4 p5 p6 K
def F33_B (gF18 : tF18) (gF16 : tF16) (gF14 : tF14) (gF85 : tF85) (gL33_0 : tL33_0) (a0 : T13) (κ : ByteArray → Option Res) : Option Res :=
  chk2 (gF18 a0.1 fun x1 =>
   chk2 (gF18 a0.2.1 fun x2 =>
    chk1 (if decide (x1.size + x2.size ≤ 9223372036854775807) = true then
      (chk1 (gF16 a0.2.2.1 fun x3 =>
       chk1 (if decide ((x1 ++ x2).size + x3.size ≤ 9223372036854775807) = true then
         (chk1 (gF16 a0.2.2.2.1 fun x4 =>
          chk1 (if decide (((x1 ++ x2) ++ x3).size + x4.size ≤ 9223372036854775807) = true then
            (chk3 (gF14 (IntKind.wrap .u64 ((a0.2.2.2.2.length : Int))) fun x5 =>
             chk1 (if decide ((((x1 ++ x2) ++ x3) ++ x4).size + x5.size ≤ 9223372036854775807) = true then
               (gL33_0 ((((x1 ++ x2) ++ x3) ++ x4) ++ x5) (0 : Int) a0.1 a0.2.1 a0.2.2.1 a0.2.2.2.1 a0.2.2.2.2 fun v7 =>
               κ v7.1)
              else
               (none))))
           else
            (none))))
        else
         (none))))
     else
      (none))))
/-- lamplighter/lamplighterref53.Event -/
def F33 : Nat → T13 → (ByteArray → Option Res) → Option Res
  | 0, _, _ => none
  | k + 1, a0, κ => F33_B (F18 k) (F16 k) (F14 k) (F85 k) (L33_0 k κ) a0 κ
def F33_s : List SC := [.agg [.str, .str, .int .i64, .int .i64, .list (.pair (.int .i64) (.pair (.int .i64) (.pair .str .bool))) .no]]
def F33_b : List (List SC) := []
def F33_m (g : T13 → (ByteArray → Option Res) → Option Res) (cf : CallF) : CallF := fun f args lent κ => match Nat.beq f 33 with
  | true => match okC F33_s args && okB F33_b lent with
    | true => g ((stringOf (nth (aggOf (nth args 0)) 0)), ((stringOf (nth (aggOf (nth args 0)) 1)), ((intOf (nth (aggOf (nth args 0)) 2)), ((intOf (nth (aggOf (nth args 0)) 3)), (listOf (.pair (.int .i64) (.pair (.int .i64) (.pair .str .bool))) (nth (aggOf (nth args 0)) 4)))))) (fun x => κ ((.str x, []) : Res))
    | false => cf f args lent κ
  | false => cf f args lent κ
theorem F33_d (k : Nat) (h : ∀ (a0 : T13) (κ : Res → Option Res), (ev Try.prog cfg k).call 33 [.agg [.str a0.1, .str a0.2.1, .int .i64 a0.2.2.1, .int .i64 a0.2.2.2.1, .list (.pair (.int .i64) (.pair (.int .i64) (.pair .str .bool))) a0.2.2.2.2 .no]] [] κ = F33 k a0 (fun x => κ ((.str x, []) : Res))) : F33_m (F33 k) (ev Try.prog cfg k).call = (ev Try.prog cfg k).call := by
  funext f args lent κ
  unfold F33_m
  split
  · rename_i hp
    split
    · rename_i hs
      rw [Bool.and_eq_true] at hs
      have e : mkC F33_s 0 args = [.agg [.str (stringOf (nth (aggOf (nth args 0)) 0)), .str (stringOf (nth (aggOf (nth args 0)) 1)), .int .i64 (intOf (nth (aggOf (nth args 0)) 2)), .int .i64 (intOf (nth (aggOf (nth args 0)) 3)), .list (.pair (.int .i64) (.pair (.int .i64) (.pair .str .bool))) (listOf (.pair (.int .i64) (.pair (.int .i64) (.pair .str .bool))) (nth (aggOf (nth args 0)) 4)) .no]] := by kernel_rfl
      have e' : mkB F33_b 0 lent = [] := by kernel_rfl
      obtain rfl := Nat.eq_of_beq_eq_true hp
      exact (h ((stringOf (nth (aggOf (nth args 0)) 0)), ((stringOf (nth (aggOf (nth args 0)) 1)), ((intOf (nth (aggOf (nth args 0)) 2)), ((intOf (nth (aggOf (nth args 0)) 3)), (listOf (.pair (.int .i64) (.pair (.int .i64) (.pair .str .bool))) (nth (aggOf (nth args 0)) 4)))))) κ).symm.trans (cong2 (fun a l => (ev Try.prog cfg k).call 33 a l κ) (e.symm.trans (okC_eq hs.1).symm) (e'.symm.trans (okB_eq hs.2).symm))
    · rfl
  · rfl
theorem F33_k (gF18 : tF18) (gF16 : tF16) (gF14 : tF14) (gF85 : tF85) (gL33_0 : tL33_0) (cf : CallF) (lf : LoopF) (a0 : T13) (κ : Res → Option Res) : evFn Try.prog cfg (F18_m gF18 (F16_m gF16 (F14_m gF14 (F85_m gF85 cf)))) (L33_0_m gL33_0 lf) 33 [.agg [.str a0.1, .str a0.2.1, .int .i64 a0.2.2.1, .int .i64 a0.2.2.2.1, .list (.pair (.int .i64) (.pair (.int .i64) (.pair .str .bool))) a0.2.2.2.2 .no]] [] κ = F33_B gF18 gF16 gF14 gF85 gL33_0 a0 (fun x => κ ((.str x, []) : Res)) := by
  kernel_rfl
theorem F33_ev : ∀ (k : Nat) (a0 : T13) (κ : Res → Option Res), (ev Try.prog cfg k).call 33 [.agg [.str a0.1, .str a0.2.1, .int .i64 a0.2.2.1, .int .i64 a0.2.2.2.1, .list (.pair (.int .i64) (.pair (.int .i64) (.pair .str .bool))) a0.2.2.2.2 .no]] [] κ = F33 k a0 (fun x => κ ((.str x, []) : Res)) := by
  intro k
  induction k with
  | zero => intros; rfl
  | succ k ih =>
    intro a0 κ
    refine (ev_call' Try.prog cfg k 33 0 _ _ κ (by rfl)).trans ?_
    rw [← F18_d k (F18_ev k), ← F16_d k (F16_ev k), ← F14_d k (F14_ev k), ← F85_d k (F85_ev k), ← L33_0_d k κ (L33_0_ev k κ)]
    exact F33_k _ _ _ _ _ _ _ a0 κ
def L13_0_B (gL13_0 : tL13_0) (κ : (List Int) → Option Res) (p0 : Int) (p1 : (List Int)) (K : Int × (List Int) → Option Res) : Option Res :=
  chk1 (if decide (p0 ≥ (128 : Int)) = true then
    (chk5 (if decide ((p1.length + ([(bits .or .u8 (IntKind.wrap .u8 (p0)) (128 : Int))] : List Int).length) * 1 ≤ 140737488355328) = true then chk3 (gL13_0 (Int.fdiv p0 (2 ^ min ((7 : Int)).toNat (IntKind.bits .u64))) (p1 ++ ([(bits .or .u8 (IntKind.wrap .u8 (p0)) (128 : Int))] : List Int)) K) else none))
   else
    (K (p0, p1)))
def L13_0 : Nat → ((List Int) → Option Res) → Int → (List Int) → (Int × (List Int) → Option Res) → Option Res
  | 0, _, _, _, _ => none
  | k + 1, κ, p0, p1, K => L13_0_B (fun p0 p1 K => L13_0 k κ p0 p1 K) κ p0 p1 K
def L13_0_s : Tr SC := Tr.of (nthD (.one .undef) [.one (.ref 31 0), .one (.int .u64)]) 5
def L13_0_b : Tr (List SC) := Tr.of (nthD [] [[], [], [], [], [], [], [], [], [], [], [], [], [], [], [], [], [], [], [], [], [], [], [], [], [], [], [], [], [], [], [], [.one (.list (.int .u8) (.own false false))]]) 6
def L13_0_m (g : Int → (List Int) → (Int × (List Int) → Option Res) → Option Res) (lf : LoopF) : LoopF := fun p σ K => match pathEq p [false, false] with
  | true => match okSt 31 L13_0_s L13_0_b σ with
    | true => g (intOf (Tr.val .undef (Tr.lft σ.slots))) (listOf (.int .u8) (nth (Tr.val [] (Tr.lft (Tr.lft (Tr.lft (Tr.lft (Tr.lft σ.boxes)))))) 0)) (fun v => K (.exit 0) ⟨31, Tr.of (nthD .undef [.ref 31 0, .int .u64 v.1]) 5, Tr.of (nthD [] [[], [], [], [], [], [], [], [], [], [], [], [], [], [], [], [], [], [], [], [], [], [], [], [], [], [], [], [], [], [], [], [.list (.int .u8) v.2 (.own false false)]]) 6⟩)
    | false => lf p σ K
  | false => lf p σ K
theorem L13_0_d (k : Nat) (κ : Res → Option Res) (h : ∀ (p0 : Int) (p1 : (List Int)) (K : Cont), (ev Try.prog cfg k).loop 13 1 κ [false, false] ⟨31, Tr.of (nthD .undef [.ref 31 0, .int .u64 p0]) 5, Tr.of (nthD [] [[], [], [], [], [], [], [], [], [], [], [], [], [], [], [], [], [], [], [], [], [], [], [], [], [], [], [], [], [], [], [], [.list (.int .u8) p1 (.own false false)]]) 6⟩ K = L13_0 k (fun x => κ ((.tup [], [[.list (.int .u8) x (.own false false)]]) : Res)) p0 p1 (fun v => K (.exit 0) ⟨31, Tr.of (nthD .undef [.ref 31 0, .int .u64 v.1]) 5, Tr.of (nthD [] [[], [], [], [], [], [], [], [], [], [], [], [], [], [], [], [], [], [], [], [], [], [], [], [], [], [], [], [], [], [], [], [.list (.int .u8) v.2 (.own false false)]]) 6⟩)) : L13_0_m (L13_0 k (fun x => κ ((.tup [], [[.list (.int .u8) x (.own false false)]]) : Res))) ((ev Try.prog cfg k).loop 13 1 κ) = (ev Try.prog cfg k).loop 13 1 κ := by
  funext p σ K
  unfold L13_0_m
  split
  · rename_i hp
    split
    · rename_i hs
      have e : mkSt 31 L13_0_s L13_0_b σ = ⟨31, Tr.of (nthD .undef [.ref 31 0, .int .u64 (intOf (Tr.val .undef (Tr.lft σ.slots)))]) 5, Tr.of (nthD [] [[], [], [], [], [], [], [], [], [], [], [], [], [], [], [], [], [], [], [], [], [], [], [], [], [], [], [], [], [], [], [], [.list (.int .u8) (listOf (.int .u8) (nth (Tr.val [] (Tr.lft (Tr.lft (Tr.lft (Tr.lft (Tr.lft σ.boxes)))))) 0)) (.own false false)]]) 6⟩ := by kernel_rfl
      rw [pathEq_eq hp]
      exact (h (intOf (Tr.val .undef (Tr.lft σ.slots))) (listOf (.int .u8) (nth (Tr.val [] (Tr.lft (Tr.lft (Tr.lft (Tr.lft (Tr.lft σ.boxes)))))) 0)) K).symm.trans (congrArg (fun s => (ev Try.prog cfg k).loop 13 1 κ [false, false] s K) (e.symm.trans (okSt_eq hs).symm))
    · rfl
  · rfl
theorem L13_0_k (gL13_0 : tL13_0) (cf : CallF) (lf : LoopF) (κ : Res → Option Res) (p0 : Int) (p1 : (List Int)) (K : Cont) : evLp Try.prog cfg cf (L13_0_m gL13_0 lf) 13 1 κ [false, false] ⟨31, Tr.of (nthD .undef [.ref 31 0, .int .u64 p0]) 5, Tr.of (nthD [] [[], [], [], [], [], [], [], [], [], [], [], [], [], [], [], [], [], [], [], [], [], [], [], [], [], [], [], [], [], [], [], [.list (.int .u8) p1 (.own false false)]]) 6⟩ K = L13_0_B gL13_0 (fun x => κ ((.tup [], [[.list (.int .u8) x (.own false false)]]) : Res)) p0 p1 (fun v => K (.exit 0) ⟨31, Tr.of (nthD .undef [.ref 31 0, .int .u64 v.1]) 5, Tr.of (nthD [] [[], [], [], [], [], [], [], [], [], [], [], [], [], [], [], [], [], [], [], [], [], [], [], [], [], [], [], [], [], [], [], [.list (.int .u8) v.2 (.own false false)]]) 6⟩) := by
  kernel_rfl
theorem L13_0_ev : ∀ (k : Nat) (κ : Res → Option Res) (p0 : Int) (p1 : (List Int)) (K : Cont), (ev Try.prog cfg k).loop 13 1 κ [false, false] ⟨31, Tr.of (nthD .undef [.ref 31 0, .int .u64 p0]) 5, Tr.of (nthD [] [[], [], [], [], [], [], [], [], [], [], [], [], [], [], [], [], [], [], [], [], [], [], [], [], [], [], [], [], [], [], [], [.list (.int .u8) p1 (.own false false)]]) 6⟩ K = L13_0 k (fun x => κ ((.tup [], [[.list (.int .u8) x (.own false false)]]) : Res)) p0 p1 (fun v => K (.exit 0) ⟨31, Tr.of (nthD .undef [.ref 31 0, .int .u64 v.1]) 5, Tr.of (nthD [] [[], [], [], [], [], [], [], [], [], [], [], [], [], [], [], [], [], [], [], [], [], [], [], [], [], [], [], [], [], [], [], [.list (.int .u8) v.2 (.own false false)]]) 6⟩) := by
  intro k κ
  induction k with
  | zero => intro p0 p1 K; rfl
  | succ k ih =>
    intro p0 p1 K
    rw [ev_loop, ← L13_0_d k κ ih]
    exact L13_0_k _ _ _ κ p0 p1 K
def F13_B (gL13_0 : tL13_0) (a1 : Int) (b0_0 : (List Int)) (κ : (List Int) → Option Res) : Option Res :=
  gL13_0 a1 b0_0 fun v1 =>
  chk4 (if decide ((v1.2.length + ([(IntKind.wrap .u8 (v1.1))] : List Int).length) * 1 ≤ 140737488355328) = true then chk2 (κ (v1.2 ++ ([(IntKind.wrap .u8 (v1.1))] : List Int))) else none)
/-- (*lamplighter/codec.Writer).Uint -/
def F13 : Nat → Int → (List Int) → ((List Int) → Option Res) → Option Res
  | 0, _, _, _ => none
  | k + 1, a1, b0_0, κ => F13_B (L13_0 k κ) a1 b0_0 κ
def F13_s : List SC := [.one (.ref 0 0), .one (.int .u64)]
def F13_b : List (List SC) := [[.one (.list (.int .u8) (.own false false))]]
def F13_m (g : Int → (List Int) → ((List Int) → Option Res) → Option Res) (cf : CallF) : CallF := fun f args lent κ => match Nat.beq f 13 with
  | true => match okC F13_s args && okB F13_b lent with
    | true => g (intOf (nth args 1)) (listOf (.int .u8) (nth (nthB lent 0) 0)) (fun x => κ ((.tup [], [[.list (.int .u8) x (.own false false)]]) : Res))
    | false => cf f args lent κ
  | false => cf f args lent κ
theorem F13_d (k : Nat) (h : ∀ (a1 : Int) (b0_0 : (List Int)) (κ : Res → Option Res), (ev Try.prog cfg k).call 13 [.ref 0 0, .int .u64 a1] [[.list (.int .u8) b0_0 (.own false false)]] κ = F13 k a1 b0_0 (fun x => κ ((.tup [], [[.list (.int .u8) x (.own false false)]]) : Res))) : F13_m (F13 k) (ev Try.prog cfg k).call = (ev Try.prog cfg k).call := by
  funext f args lent κ
  unfold F13_m
  split
  · rename_i hp
    split
    · rename_i hs
      rw [Bool.and_eq_true] at hs
      have e : mkC F13_s 0 args = [.ref 0 0, .int .u64 (intOf (nth args 1))] := by kernel_rfl
      have e' : mkB F13_b 0 lent = [[.list (.int .u8) (listOf (.int .u8) (nth (nthB lent 0) 0)) (.own false false)]] := by kernel_rfl
      obtain rfl := Nat.eq_of_beq_eq_true hp
      exact (h (intOf (nth args 1)) (listOf (.int .u8) (nth (nthB lent 0) 0)) κ).symm.trans (cong2 (fun a l => (ev Try.prog cfg k).call 13 a l κ) (e.symm.trans (okC_eq hs.1).symm) (e'.symm.trans (okB_eq hs.2).symm))
    · rfl
  · rfl
theorem F13_k (gL13_0 : tL13_0) (cf : CallF) (lf : LoopF) (a1 : Int) (b0_0 : (List Int)) (κ : Res → Option Res) : evFn Try.prog cfg cf (L13_0_m gL13_0 lf) 13 [.ref 0 0, .int .u64 a1] [[.list (.int .u8) b0_0 (.own false false)]] κ = F13_B gL13_0 a1 b0_0 (fun x => κ ((.tup [], [[.list (.int .u8) x (.own false false)]]) : Res)) := by
  kernel_rfl
theorem F13_ev : ∀ (k : Nat) (a1 : Int) (b0_0 : (List Int)) (κ : Res → Option Res), (ev Try.prog cfg k).call 13 [.ref 0 0, .int .u64 a1] [[.list (.int .u8) b0_0 (.own false false)]] κ = F13 k a1 b0_0 (fun x => κ ((.tup [], [[.list (.int .u8) x (.own false false)]]) : Res)) := by
  intro k
  induction k with
  | zero => intros; rfl
  | succ k ih =>
    intro a1 b0_0 κ
    refine (ev_call' Try.prog cfg k 13 1 _ _ κ (by rfl)).trans ?_
    rw [← L13_0_d k κ (L13_0_ev k κ)]
    exact F13_k _ _ _ a1 b0_0 κ
def F17_B (gF13 : tF13) (a1 : ByteArray) (b0_0 : (List Int)) (κ : (List Int) → Option Res) : Option Res :=
  chk3 (gF13 (IntKind.wrap .u64 ((a1.size : Int))) b0_0 fun x1 =>
   chk2 (if decide ((x1.length + (bytesOf a1).length) * 1 ≤ 140737488355328) = true then chk2 (κ (x1 ++ (bytesOf a1))) else none))
/-- (*lamplighter/codec.Writer).Text -/
def F17 : Nat → ByteArray → (List Int) → ((List Int) → Option Res) → Option Res
  | 0, _, _, _ => none
  | k + 1, a1, b0_0, κ => F17_B (F13 k) a1 b0_0 κ
def F17_s : List SC := [.one (.ref 0 0), .one .str]
def F17_b : List (List SC) := [[.one (.list (.int .u8) (.own false false))]]
def F17_m (g : ByteArray → (List Int) → ((List Int) → Option Res) → Option Res) (cf : CallF) : CallF := fun f args lent κ => match Nat.beq f 17 with
  | true => match okC F17_s args && okB F17_b lent with
    | true => g (stringOf (nth args 1)) (listOf (.int .u8) (nth (nthB lent 0) 0)) (fun x => κ ((.tup [], [[.list (.int .u8) x (.own false false)]]) : Res))
    | false => cf f args lent κ
  | false => cf f args lent κ
theorem F17_d (k : Nat) (h : ∀ (a1 : ByteArray) (b0_0 : (List Int)) (κ : Res → Option Res), (ev Try.prog cfg k).call 17 [.ref 0 0, .str a1] [[.list (.int .u8) b0_0 (.own false false)]] κ = F17 k a1 b0_0 (fun x => κ ((.tup [], [[.list (.int .u8) x (.own false false)]]) : Res))) : F17_m (F17 k) (ev Try.prog cfg k).call = (ev Try.prog cfg k).call := by
  funext f args lent κ
  unfold F17_m
  split
  · rename_i hp
    split
    · rename_i hs
      rw [Bool.and_eq_true] at hs
      have e : mkC F17_s 0 args = [.ref 0 0, .str (stringOf (nth args 1))] := by kernel_rfl
      have e' : mkB F17_b 0 lent = [[.list (.int .u8) (listOf (.int .u8) (nth (nthB lent 0) 0)) (.own false false)]] := by kernel_rfl
      obtain rfl := Nat.eq_of_beq_eq_true hp
      exact (h (stringOf (nth args 1)) (listOf (.int .u8) (nth (nthB lent 0) 0)) κ).symm.trans (cong2 (fun a l => (ev Try.prog cfg k).call 17 a l κ) (e.symm.trans (okC_eq hs.1).symm) (e'.symm.trans (okB_eq hs.2).symm))
    · rfl
  · rfl
theorem F17_k (gF13 : tF13) (cf : CallF) (lf : LoopF) (a1 : ByteArray) (b0_0 : (List Int)) (κ : Res → Option Res) : evFn Try.prog cfg (F13_m gF13 cf) lf 17 [.ref 0 0, .str a1] [[.list (.int .u8) b0_0 (.own false false)]] κ = F17_B gF13 a1 b0_0 (fun x => κ ((.tup [], [[.list (.int .u8) x (.own false false)]]) : Res)) := by
  kernel_rfl
theorem F17_ev : ∀ (k : Nat) (a1 : ByteArray) (b0_0 : (List Int)) (κ : Res → Option Res), (ev Try.prog cfg k).call 17 [.ref 0 0, .str a1] [[.list (.int .u8) b0_0 (.own false false)]] κ = F17 k a1 b0_0 (fun x => κ ((.tup [], [[.list (.int .u8) x (.own false false)]]) : Res)) := by
  intro k
  induction k with
  | zero => intros; rfl
  | succ k ih =>
    intro a1 b0_0 κ
    refine (ev_call' Try.prog cfg k 17 1 _ _ κ (by rfl)).trans ?_
    rw [← F13_d k (F13_ev k)]
    exact F17_k _ _ _ a1 b0_0 κ
def F15_B (gF13 : tF13) (a1 : Int) (b0_0 : (List Int)) (κ : (List Int) → Option Res) : Option Res :=
  chk6 (gF13 (bits .xor .u64 (IntKind.wrap .u64 ((IntKind.wrap .u64 (a1)) * 2 ^ min ((1 : Int)).toNat (IntKind.bits .u64))) (IntKind.wrap .u64 ((Int.fdiv a1 (2 ^ min ((63 : Int)).toNat (IntKind.bits .i64)))))) b0_0 fun x1 =>
   chk1 (κ x1))
/-- (*lamplighter/codec.Writer).Int -/
def F15 : Nat → Int → (List Int) → ((List Int) → Option Res) → Option Res
  | 0, _, _, _ => none
  | k + 1, a1, b0_0, κ => F15_B (F13 k) a1 b0_0 κ
def F15_s : List SC := [.one (.ref 0 0), .one (.int .i64)]
def F15_b : List (List SC) := [[.one (.list (.int .u8) (.own false false))]]
def F15_m (g : Int → (List Int) → ((List Int) → Option Res) → Option Res) (cf : CallF) : CallF := fun f args lent κ => match Nat.beq f 15 with
  | true => match okC F15_s args && okB F15_b lent with
    | true => g (intOf (nth args 1)) (listOf (.int .u8) (nth (nthB lent 0) 0)) (fun x => κ ((.tup [], [[.list (.int .u8) x (.own false false)]]) : Res))
    | false => cf f args lent κ
  | false => cf f args lent κ
theorem F15_d (k : Nat) (h : ∀ (a1 : Int) (b0_0 : (List Int)) (κ : Res → Option Res), (ev Try.prog cfg k).call 15 [.ref 0 0, .int .i64 a1] [[.list (.int .u8) b0_0 (.own false false)]] κ = F15 k a1 b0_0 (fun x => κ ((.tup [], [[.list (.int .u8) x (.own false false)]]) : Res))) : F15_m (F15 k) (ev Try.prog cfg k).call = (ev Try.prog cfg k).call := by
  funext f args lent κ
  unfold F15_m
  split
  · rename_i hp
    split
    · rename_i hs
      rw [Bool.and_eq_true] at hs
      have e : mkC F15_s 0 args = [.ref 0 0, .int .i64 (intOf (nth args 1))] := by kernel_rfl
      have e' : mkB F15_b 0 lent = [[.list (.int .u8) (listOf (.int .u8) (nth (nthB lent 0) 0)) (.own false false)]] := by kernel_rfl
      obtain rfl := Nat.eq_of_beq_eq_true hp
      exact (h (intOf (nth args 1)) (listOf (.int .u8) (nth (nthB lent 0) 0)) κ).symm.trans (cong2 (fun a l => (ev Try.prog cfg k).call 15 a l κ) (e.symm.trans (okC_eq hs.1).symm) (e'.symm.trans (okB_eq hs.2).symm))
    · rfl
  · rfl
theorem F15_k (gF13 : tF13) (cf : CallF) (lf : LoopF) (a1 : Int) (b0_0 : (List Int)) (κ : Res → Option Res) : evFn Try.prog cfg (F13_m gF13 cf) lf 15 [.ref 0 0, .int .i64 a1] [[.list (.int .u8) b0_0 (.own false false)]] κ = F15_B gF13 a1 b0_0 (fun x => κ ((.tup [], [[.list (.int .u8) x (.own false false)]]) : Res)) := by
  kernel_rfl
theorem F15_ev : ∀ (k : Nat) (a1 : Int) (b0_0 : (List Int)) (κ : Res → Option Res), (ev Try.prog cfg k).call 15 [.ref 0 0, .int .i64 a1] [[.list (.int .u8) b0_0 (.own false false)]] κ = F15 k a1 b0_0 (fun x => κ ((.tup [], [[.list (.int .u8) x (.own false false)]]) : Res)) := by
  intro k
  induction k with
  | zero => intros; rfl
  | succ k ih =>
    intro a1 b0_0 κ
    refine (ev_call' Try.prog cfg k 15 1 _ _ κ (by rfl)).trans ?_
    rw [← F13_d k (F13_ev k)]
    exact F15_k _ _ _ a1 b0_0 κ
def F19_B (gF13 : tF13) (a1 : Bool) (b0_0 : (List Int)) (κ : (List Int) → Option Res) : Option Res :=
  if a1 = true then
   (chk1 (gF13 (1 : Int) b0_0 fun x1 =>
    chk1 (κ x1)))
  else
   (chk1 (gF13 (0 : Int) b0_0 fun x2 =>
    chk1 (κ x2)))
/-- (*lamplighter/codec.Writer).Truth -/
def F19 : Nat → Bool → (List Int) → ((List Int) → Option Res) → Option Res
  | 0, _, _, _ => none
  | k + 1, a1, b0_0, κ => F19_B (F13 k) a1 b0_0 κ
def F19_s : List SC := [.one (.ref 0 0), .one .bool]
def F19_b : List (List SC) := [[.one (.list (.int .u8) (.own false false))]]
def F19_m (g : Bool → (List Int) → ((List Int) → Option Res) → Option Res) (cf : CallF) : CallF := fun f args lent κ => match Nat.beq f 19 with
  | true => match okC F19_s args && okB F19_b lent with
    | true => g (boolOf (nth args 1)) (listOf (.int .u8) (nth (nthB lent 0) 0)) (fun x => κ ((.tup [], [[.list (.int .u8) x (.own false false)]]) : Res))
    | false => cf f args lent κ
  | false => cf f args lent κ
theorem F19_d (k : Nat) (h : ∀ (a1 : Bool) (b0_0 : (List Int)) (κ : Res → Option Res), (ev Try.prog cfg k).call 19 [.ref 0 0, .bool a1] [[.list (.int .u8) b0_0 (.own false false)]] κ = F19 k a1 b0_0 (fun x => κ ((.tup [], [[.list (.int .u8) x (.own false false)]]) : Res))) : F19_m (F19 k) (ev Try.prog cfg k).call = (ev Try.prog cfg k).call := by
  funext f args lent κ
  unfold F19_m
  split
  · rename_i hp
    split
    · rename_i hs
      rw [Bool.and_eq_true] at hs
      have e : mkC F19_s 0 args = [.ref 0 0, .bool (boolOf (nth args 1))] := by kernel_rfl
      have e' : mkB F19_b 0 lent = [[.list (.int .u8) (listOf (.int .u8) (nth (nthB lent 0) 0)) (.own false false)]] := by kernel_rfl
      obtain rfl := Nat.eq_of_beq_eq_true hp
      exact (h (boolOf (nth args 1)) (listOf (.int .u8) (nth (nthB lent 0) 0)) κ).symm.trans (cong2 (fun a l => (ev Try.prog cfg k).call 19 a l κ) (e.symm.trans (okC_eq hs.1).symm) (e'.symm.trans (okB_eq hs.2).symm))
    · rfl
  · rfl
theorem F19_k (gF13 : tF13) (cf : CallF) (lf : LoopF) (a1 : Bool) (b0_0 : (List Int)) (κ : Res → Option Res) : evFn Try.prog cfg (F13_m gF13 cf) lf 19 [.ref 0 0, .bool a1] [[.list (.int .u8) b0_0 (.own false false)]] κ = F19_B gF13 a1 b0_0 (fun x => κ ((.tup [], [[.list (.int .u8) x (.own false false)]]) : Res)) := by
  kernel_rfl
theorem F19_ev : ∀ (k : Nat) (a1 : Bool) (b0_0 : (List Int)) (κ : Res → Option Res), (ev Try.prog cfg k).call 19 [.ref 0 0, .bool a1] [[.list (.int .u8) b0_0 (.own false false)]] κ = F19 k a1 b0_0 (fun x => κ ((.tup [], [[.list (.int .u8) x (.own false false)]]) : Res)) := by
  intro k
  induction k with
  | zero => intros; rfl
  | succ k ih =>
    intro a1 b0_0 κ
    refine (ev_call' Try.prog cfg k 19 1 _ _ κ (by rfl)).trans ?_
    rw [← F13_d k (F13_ev k)]
    exact F19_k _ _ _ a1 b0_0 κ
def F131_B (gF13 : tF13) (gF15 : tF15) (gF17 : tF17) (gF19 : tF19) (a1 : T2) (b0_0 : (List Int)) (κ : (List Int) → Option Res) : Option Res :=
  chk3 (gF13 (IntKind.wrap .u64 (a1.1)) b0_0 fun x1 =>
   chk2 (if (a1.1 == (1 : Int)) = true then
     (chk1 (gF15 a1.2.1 x1 fun x2 =>
      chk1 (κ x2)))
    else
     (chk1 (if (a1.1 == (2 : Int)) = true then
       (chk1 (gF17 a1.2.2.1 x1 fun x3 =>
        chk1 (κ x3)))
      else
       (chk1 (if (a1.1 == (3 : Int)) = true then
         (chk1 (gF19 a1.2.2.2 x1 fun x4 =>
          chk1 (κ x4)))
        else
         (κ x1)))))))
/-- (*lamplighter/codec.Writer).Value -/
def F131 : Nat → T2 → (List Int) → ((List Int) → Option Res) → Option Res
  | 0, _, _, _ => none
  | k + 1, a1, b0_0, κ => F131_B (F13 k) (F15 k) (F17 k) (F19 k) a1 b0_0 κ
def F131_s : List SC := [.one (.ref 0 0), .agg [.int .i64, .int .i64, .str, .bool]]
def F131_b : List (List SC) := [[.one (.list (.int .u8) (.own false false))]]
def F131_m (g : T2 → (List Int) → ((List Int) → Option Res) → Option Res) (cf : CallF) : CallF := fun f args lent κ => match Nat.beq f 131 with
  | true => match okC F131_s args && okB F131_b lent with
    | true => g ((intOf (nth (aggOf (nth args 1)) 0)), ((intOf (nth (aggOf (nth args 1)) 1)), ((stringOf (nth (aggOf (nth args 1)) 2)), (boolOf (nth (aggOf (nth args 1)) 3))))) (listOf (.int .u8) (nth (nthB lent 0) 0)) (fun x => κ ((.tup [], [[.list (.int .u8) x (.own false false)]]) : Res))
    | false => cf f args lent κ
  | false => cf f args lent κ
theorem F131_d (k : Nat) (h : ∀ (a1 : T2) (b0_0 : (List Int)) (κ : Res → Option Res), (ev Try.prog cfg k).call 131 [.ref 0 0, .agg [.int .i64 a1.1, .int .i64 a1.2.1, .str a1.2.2.1, .bool a1.2.2.2]] [[.list (.int .u8) b0_0 (.own false false)]] κ = F131 k a1 b0_0 (fun x => κ ((.tup [], [[.list (.int .u8) x (.own false false)]]) : Res))) : F131_m (F131 k) (ev Try.prog cfg k).call = (ev Try.prog cfg k).call := by
  funext f args lent κ
  unfold F131_m
  split
  · rename_i hp
    split
    · rename_i hs
      rw [Bool.and_eq_true] at hs
      have e : mkC F131_s 0 args = [.ref 0 0, .agg [.int .i64 (intOf (nth (aggOf (nth args 1)) 0)), .int .i64 (intOf (nth (aggOf (nth args 1)) 1)), .str (stringOf (nth (aggOf (nth args 1)) 2)), .bool (boolOf (nth (aggOf (nth args 1)) 3))]] := by kernel_rfl
      have e' : mkB F131_b 0 lent = [[.list (.int .u8) (listOf (.int .u8) (nth (nthB lent 0) 0)) (.own false false)]] := by kernel_rfl
      obtain rfl := Nat.eq_of_beq_eq_true hp
      exact (h ((intOf (nth (aggOf (nth args 1)) 0)), ((intOf (nth (aggOf (nth args 1)) 1)), ((stringOf (nth (aggOf (nth args 1)) 2)), (boolOf (nth (aggOf (nth args 1)) 3))))) (listOf (.int .u8) (nth (nthB lent 0) 0)) κ).symm.trans (cong2 (fun a l => (ev Try.prog cfg k).call 131 a l κ) (e.symm.trans (okC_eq hs.1).symm) (e'.symm.trans (okB_eq hs.2).symm))
    · rfl
  · rfl
theorem F131_k (gF13 : tF13) (gF15 : tF15) (gF17 : tF17) (gF19 : tF19) (cf : CallF) (lf : LoopF) (a1 : T2) (b0_0 : (List Int)) (κ : Res → Option Res) : evFn Try.prog cfg (F13_m gF13 (F15_m gF15 (F17_m gF17 (F19_m gF19 cf)))) lf 131 [.ref 0 0, .agg [.int .i64 a1.1, .int .i64 a1.2.1, .str a1.2.2.1, .bool a1.2.2.2]] [[.list (.int .u8) b0_0 (.own false false)]] κ = F131_B gF13 gF15 gF17 gF19 a1 b0_0 (fun x => κ ((.tup [], [[.list (.int .u8) x (.own false false)]]) : Res)) := by
  kernel_rfl
theorem F131_ev : ∀ (k : Nat) (a1 : T2) (b0_0 : (List Int)) (κ : Res → Option Res), (ev Try.prog cfg k).call 131 [.ref 0 0, .agg [.int .i64 a1.1, .int .i64 a1.2.1, .str a1.2.2.1, .bool a1.2.2.2]] [[.list (.int .u8) b0_0 (.own false false)]] κ = F131 k a1 b0_0 (fun x => κ ((.tup [], [[.list (.int .u8) x (.own false false)]]) : Res)) := by
  intro k
  induction k with
  | zero => intros; rfl
  | succ k ih =>
    intro a1 b0_0 κ
    refine (ev_call' Try.prog cfg k 131 1 _ _ κ (by rfl)).trans ?_
    rw [← F13_d k (F13_ev k), ← F15_d k (F15_ev k), ← F17_d k (F17_ev k), ← F19_d k (F19_ev k)]
    exact F131_k _ _ _ _ _ _ a1 b0_0 κ
def L83_0_B (gF131 : tF131) (gL83_0 : tL83_0) (κ : (List Int) → Option Res) (p0 : T4) (p1 : Int) (p2 : Int) (p3 : (List Int)) (K : Int × (List Int) → Option Res) : Option Res :=
  chk1 (if decide (p2 < p1) = true then
    (if (true && (decide ((0 : Int) ≤ p2) && decide (p2 < (p0.length : Int)))) = true then
     (chk4 (gF131 ((p0.getD p2.toNat ((0 : Int), ((0 : Int), ((⟨#[]⟩ : ByteArray), false)))).1, (((p0.getD p2.toNat ((0 : Int), ((0 : Int), ((⟨#[]⟩ : ByteArray), false)))).2).1, (((p0.getD p2.toNat ((0 : Int), ((0 : Int), ((⟨#[]⟩ : ByteArray), false)))).2).2))) p3 fun x6 =>
      chk2 (gL83_0 p0 p1 (IntKind.wrap .i64 (p2 + (1 : Int))) x6 K)))
    else
     (none))
   else
    (K (p2, p3)))
def L83_0 : Nat → ((List Int) → Option Res) → T4 → Int → Int → (List Int) → (Int × (List Int) → Option Res) → Option Res
  | 0, _, _, _, _, _, _ => none
  | k + 1, κ, p0, p1, p2, p3, K => L83_0_B (F131 k) (fun p0 p1 p2 p3 K => L83_0 k κ p0 p1 p2 p3 K) κ p0 p1 p2 p3 K
def L83_0_s : Tr SC := Tr.of (nthD (.one .undef) [.one (.ref 39 0), .one .undef, .one .undef, .one .undef, .one .undef, .one .undef, .one .undef, .one .undef, .one .undef, .one .undef, .one .undef, .one .undef, .one .undef, .one .undef, .one .undef, .one .undef, .one .undef, .one .undef, .one .undef, .one .undef, .one .undef, .one .undef, .one .undef, .one .undef, .one .undef, .one .undef, .one .undef, .one .undef, .one .undef, .one (.list (.pair (.int .i64) (.pair (.int .i64) (.pair .str .bool))) .no), .one (.int .i64), .one (.int .i64)]) 6
def L83_0_b : Tr (List SC) := Tr.of (nthD [] [[], [], [], [], [], [], [], [], [], [], [], [], [], [], [], [], [], [], [], [], [], [], [], [], [], [], [], [], [], [], [], [], [], [], [], [], [], [], [], [.one (.list (.int .u8) (.own false false))]]) 6
def L83_0_m (g : T4 → Int → Int → (List Int) → (Int × (List Int) → Option Res) → Option Res) (lf : LoopF) : LoopF := fun p σ K => match pathEq p [true, true, true, true, true, true, true, false] with
  | true => match okSt 39 L83_0_s L83_0_b σ with
    | true => g (listOf (.pair (.int .i64) (.pair (.int .i64) (.pair .str .bool))) (Tr.val .undef (Tr.rgt (Tr.rgt (Tr.rgt (Tr.lft σ.slots)))))) (intOf (Tr.val .undef (Tr.rgt (Tr.rgt (Tr.rgt (Tr.rgt σ.slots)))))) (intOf (Tr.val .undef (Tr.lft (Tr.lft (Tr.lft (Tr.lft (Tr.lft σ.slots))))))) (listOf (.int .u8) (nth (Tr.val [] (Tr.lft (Tr.rgt (Tr.lft (Tr.lft (Tr.lft σ.boxes)))))) 0)) (fun v => K (.exit 0) ⟨39, Tr.of (nthD .undef [.ref 39 0, .undef, .undef, .undef, .undef, .undef, .undef, .undef, .undef, .undef, .undef, .undef, .undef, .undef, .undef, .undef, .undef, .undef, .undef, .undef, .undef, .undef, .undef, .undef, .undef, .undef, .undef, .undef, .undef, .list (.pair (.int .i64) (.pair (.int .i64) (.pair .str .bool))) (listOf (.pair (.int .i64) (.pair (.int .i64) (.pair .str .bool))) (Tr.val .undef (Tr.rgt (Tr.rgt (Tr.rgt (Tr.lft σ.slots)))))) .no, .int .i64 (intOf (Tr.val .undef (Tr.rgt (Tr.rgt (Tr.rgt (Tr.rgt σ.slots)))))), .int .i64 v.1]) 6, Tr.of (nthD [] [[], [], [], [], [], [], [], [], [], [], [], [], [], [], [], [], [], [], [], [], [], [], [], [], [], [], [], [], [], [], [], [], [], [], [], [], [], [], [], [.list (.int .u8) v.2 (.own false false)]]) 6⟩)
    | false => lf p σ K
  | false => lf p σ K
theorem L83_0_d (k : Nat) (κ : Res → Option Res) (h : ∀ (p0 : T4) (p1 : Int) (p2 : Int) (p3 : (List Int)) (K : Cont), (ev Try.prog cfg k).loop 83 1 κ [true, true, true, true, true, true, true, false] ⟨39, Tr.of (nthD .undef [.ref 39 0, .undef, .undef, .undef, .undef, .undef, .undef, .undef, .undef, .undef, .undef, .undef, .undef, .undef, .undef, .undef, .undef, .undef, .undef, .undef, .undef, .undef, .undef, .undef, .undef, .undef, .undef, .undef, .undef, .list (.pair (.int .i64) (.pair (.int .i64) (.pair .str .bool))) p0 .no, .int .i64 p1, .int .i64 p2]) 6, Tr.of (nthD [] [[], [], [], [], [], [], [], [], [], [], [], [], [], [], [], [], [], [], [], [], [], [], [], [], [], [], [], [], [], [], [], [], [], [], [], [], [], [], [], [.list (.int .u8) p3 (.own false false)]]) 6⟩ K = L83_0 k (fun x => κ ((.tup [], [[.list (.int .u8) x (.own false false)]]) : Res)) p0 p1 p2 p3 (fun v => K (.exit 0) ⟨39, Tr.of (nthD .undef [.ref 39 0, .undef, .undef, .undef, .undef, .undef, .undef, .undef, .undef, .undef, .undef, .undef, .undef, .undef, .undef, .undef, .undef, .undef, .undef, .undef, .undef, .undef, .undef, .undef, .undef, .undef, .undef, .undef, .undef, .list (.pair (.int .i64) (.pair (.int .i64) (.pair .str .bool))) p0 .no, .int .i64 p1, .int .i64 v.1]) 6, Tr.of (nthD [] [[], [], [], [], [], [], [], [], [], [], [], [], [], [], [], [], [], [], [], [], [], [], [], [], [], [], [], [], [], [], [], [], [], [], [], [], [], [], [], [.list (.int .u8) v.2 (.own false false)]]) 6⟩)) : L83_0_m (L83_0 k (fun x => κ ((.tup [], [[.list (.int .u8) x (.own false false)]]) : Res))) ((ev Try.prog cfg k).loop 83 1 κ) = (ev Try.prog cfg k).loop 83 1 κ := by
  funext p σ K
  unfold L83_0_m
  split
  · rename_i hp
    split
    · rename_i hs
      have e : mkSt 39 L83_0_s L83_0_b σ = ⟨39, Tr.of (nthD .undef [.ref 39 0, .undef, .undef, .undef, .undef, .undef, .undef, .undef, .undef, .undef, .undef, .undef, .undef, .undef, .undef, .undef, .undef, .undef, .undef, .undef, .undef, .undef, .undef, .undef, .undef, .undef, .undef, .undef, .undef, .list (.pair (.int .i64) (.pair (.int .i64) (.pair .str .bool))) (listOf (.pair (.int .i64) (.pair (.int .i64) (.pair .str .bool))) (Tr.val .undef (Tr.rgt (Tr.rgt (Tr.rgt (Tr.lft σ.slots)))))) .no, .int .i64 (intOf (Tr.val .undef (Tr.rgt (Tr.rgt (Tr.rgt (Tr.rgt σ.slots)))))), .int .i64 (intOf (Tr.val .undef (Tr.lft (Tr.lft (Tr.lft (Tr.lft (Tr.lft σ.slots)))))))]) 6, Tr.of (nthD [] [[], [], [], [], [], [], [], [], [], [], [], [], [], [], [], [], [], [], [], [], [], [], [], [], [], [], [], [], [], [], [], [], [], [], [], [], [], [], [], [.list (.int .u8) (listOf (.int .u8) (nth (Tr.val [] (Tr.lft (Tr.rgt (Tr.lft (Tr.lft (Tr.lft σ.boxes)))))) 0)) (.own false false)]]) 6⟩ := by kernel_rfl
      rw [pathEq_eq hp]
      exact (h (listOf (.pair (.int .i64) (.pair (.int .i64) (.pair .str .bool))) (Tr.val .undef (Tr.rgt (Tr.rgt (Tr.rgt (Tr.lft σ.slots)))))) (intOf (Tr.val .undef (Tr.rgt (Tr.rgt (Tr.rgt (Tr.rgt σ.slots)))))) (intOf (Tr.val .undef (Tr.lft (Tr.lft (Tr.lft (Tr.lft (Tr.lft σ.slots))))))) (listOf (.int .u8) (nth (Tr.val [] (Tr.lft (Tr.rgt (Tr.lft (Tr.lft (Tr.lft σ.boxes)))))) 0)) K).symm.trans (congrArg (fun s => (ev Try.prog cfg k).loop 83 1 κ [true, true, true, true, true, true, true, false] s K) (e.symm.trans (okSt_eq hs).symm))
    · rfl
  · rfl
theorem L83_0_k (gF131 : tF131) (gL83_0 : tL83_0) (cf : CallF) (lf : LoopF) (κ : Res → Option Res) (p0 : T4) (p1 : Int) (p2 : Int) (p3 : (List Int)) (K : Cont) : evLp Try.prog cfg (F131_m gF131 cf) (L83_0_m gL83_0 lf) 83 1 κ [true, true, true, true, true, true, true, false] ⟨39, Tr.of (nthD .undef [.ref 39 0, .undef, .undef, .undef, .undef, .undef, .undef, .undef, .undef, .undef, .undef, .undef, .undef, .undef, .undef, .undef, .undef, .undef, .undef, .undef, .undef, .undef, .undef, .undef, .undef, .undef, .undef, .undef, .undef, .list (.pair (.int .i64) (.pair (.int .i64) (.pair .str .bool))) p0 .no, .int .i64 p1, .int .i64 p2]) 6, Tr.of (nthD [] [[], [], [], [], [], [], [], [], [], [], [], [], [], [], [], [], [], [], [], [], [], [], [], [], [], [], [], [], [], [], [], [], [], [], [], [], [], [], [], [.list (.int .u8) p3 (.own false false)]]) 6⟩ K = L83_0_B gF131 gL83_0 (fun x => κ ((.tup [], [[.list (.int .u8) x (.own false false)]]) : Res)) p0 p1 p2 p3 (fun v => K (.exit 0) ⟨39, Tr.of (nthD .undef [.ref 39 0, .undef, .undef, .undef, .undef, .undef, .undef, .undef, .undef, .undef, .undef, .undef, .undef, .undef, .undef, .undef, .undef, .undef, .undef, .undef, .undef, .undef, .undef, .undef, .undef, .undef, .undef, .undef, .undef, .list (.pair (.int .i64) (.pair (.int .i64) (.pair .str .bool))) p0 .no, .int .i64 p1, .int .i64 v.1]) 6, Tr.of (nthD [] [[], [], [], [], [], [], [], [], [], [], [], [], [], [], [], [], [], [], [], [], [], [], [], [], [], [], [], [], [], [], [], [], [], [], [], [], [], [], [], [.list (.int .u8) v.2 (.own false false)]]) 6⟩) := by
  kernel_rfl
theorem L83_0_ev : ∀ (k : Nat) (κ : Res → Option Res) (p0 : T4) (p1 : Int) (p2 : Int) (p3 : (List Int)) (K : Cont), (ev Try.prog cfg k).loop 83 1 κ [true, true, true, true, true, true, true, false] ⟨39, Tr.of (nthD .undef [.ref 39 0, .undef, .undef, .undef, .undef, .undef, .undef, .undef, .undef, .undef, .undef, .undef, .undef, .undef, .undef, .undef, .undef, .undef, .undef, .undef, .undef, .undef, .undef, .undef, .undef, .undef, .undef, .undef, .undef, .list (.pair (.int .i64) (.pair (.int .i64) (.pair .str .bool))) p0 .no, .int .i64 p1, .int .i64 p2]) 6, Tr.of (nthD [] [[], [], [], [], [], [], [], [], [], [], [], [], [], [], [], [], [], [], [], [], [], [], [], [], [], [], [], [], [], [], [], [], [], [], [], [], [], [], [], [.list (.int .u8) p3 (.own false false)]]) 6⟩ K = L83_0 k (fun x => κ ((.tup [], [[.list (.int .u8) x (.own false false)]]) : Res)) p0 p1 p2 p3 (fun v => K (.exit 0) ⟨39, Tr.of (nthD .undef [.ref 39 0, .undef, .undef, .undef, .undef, .undef, .undef, .undef, .undef, .undef, .undef, .undef, .undef, .undef, .undef, .undef, .undef, .undef, .undef, .undef, .undef, .undef, .undef, .undef, .undef, .undef, .undef, .undef, .undef, .list (.pair (.int .i64) (.pair (.int .i64) (.pair .str .bool))) p0 .no, .int .i64 p1, .int .i64 v.1]) 6, Tr.of (nthD [] [[], [], [], [], [], [], [], [], [], [], [], [], [], [], [], [], [], [], [], [], [], [], [], [], [], [], [], [], [], [], [], [], [], [], [], [], [], [], [], [.list (.int .u8) v.2 (.own false false)]]) 6⟩) := by
  intro k κ
  induction k with
  | zero => intro p0 p1 p2 p3 K; rfl
  | succ k ih =>
    intro p0 p1 p2 p3 K
    rw [ev_loop, ← F131_d k (F131_ev k), ← L83_0_d k κ ih]
    exact L83_0_k _ _ _ _ κ p0 p1 p2 p3 K
def F83_B (gF17 : tF17) (gF15 : tF15) (gF13 : tF13) (gF131 : tF131) (gL83_0 : tL83_0) (a1 : T13) (b0_0 : (List Int)) (κ : (List Int) → Option Res) : Option Res :=
  chk2 (gF17 a1.1 b0_0 fun x1 =>
   chk2 (gF17 a1.2.1 x1 fun x2 =>
    chk2 (gF15 a1.2.2.1 x2 fun x3 =>
     chk2 (gF15 a1.2.2.2.1 x3 fun x4 =>
      chk4 (gF13 (IntKind.wrap .u64 ((a1.2.2.2.2.length : Int))) x4 fun x5 =>
       chk2 (gL83_0 a1.2.2.2.2 (a1.2.2.2.2.length : Int) (0 : Int) x5 fun v7 =>
        κ v7.2))))))
/-- (*lamplighter/codec.Writer).Event -/
def F83 : Nat → T13 → (List Int) → ((List Int) → Option Res) → Option Res
  | 0, _, _, _ => none
  | k + 1, a1, b0_0, κ => F83_B (F17 k) (F15 k) (F13 k) (F131 k) (L83_0 k κ) a1 b0_0 κ
def F83_s : List SC := [.one (.ref 0 0), .agg [.str, .str, .int .i64, .int .i64, .list (.pair (.int .i64) (.pair (.int .i64) (.pair .str .bool))) .no]]
def F83_b : List (List SC) := [[.one (.list (.int .u8) (.own false false))]]
def F83_m (g : T13 → (List Int) → ((List Int) → Option Res) → Option Res) (cf : CallF) : CallF := fun f args lent κ => match Nat.beq f 83 with
  | true => match okC F83_s args && okB F83_b lent with
    | true => g ((stringOf (nth (aggOf (nth args 1)) 0)), ((stringOf (nth (aggOf (nth args 1)) 1)), ((intOf (nth (aggOf (nth args 1)) 2)), ((intOf (nth (aggOf (nth args 1)) 3)), (listOf (.pair (.int .i64) (.pair (.int .i64) (.pair .str .bool))) (nth (aggOf (nth args 1)) 4)))))) (listOf (.int .u8) (nth (nthB lent 0) 0)) (fun x => κ ((.tup [], [[.list (.int .u8) x (.own false false)]]) : Res))
    | false => cf f args lent κ
  | false => cf f args lent κ
theorem F83_d (k : Nat) (h : ∀ (a1 : T13) (b0_0 : (List Int)) (κ : Res → Option Res), (ev Try.prog cfg k).call 83 [.ref 0 0, .agg [.str a1.1, .str a1.2.1, .int .i64 a1.2.2.1, .int .i64 a1.2.2.2.1, .list (.pair (.int .i64) (.pair (.int .i64) (.pair .str .bool))) a1.2.2.2.2 .no]] [[.list (.int .u8) b0_0 (.own false false)]] κ = F83 k a1 b0_0 (fun x => κ ((.tup [], [[.list (.int .u8) x (.own false false)]]) : Res))) : F83_m (F83 k) (ev Try.prog cfg k).call = (ev Try.prog cfg k).call := by
  funext f args lent κ
  unfold F83_m
  split
  · rename_i hp
    split
    · rename_i hs
      rw [Bool.and_eq_true] at hs
      have e : mkC F83_s 0 args = [.ref 0 0, .agg [.str (stringOf (nth (aggOf (nth args 1)) 0)), .str (stringOf (nth (aggOf (nth args 1)) 1)), .int .i64 (intOf (nth (aggOf (nth args 1)) 2)), .int .i64 (intOf (nth (aggOf (nth args 1)) 3)), .list (.pair (.int .i64) (.pair (.int .i64) (.pair .str .bool))) (listOf (.pair (.int .i64) (.pair (.int .i64) (.pair .str .bool))) (nth (aggOf (nth args 1)) 4)) .no]] := by kernel_rfl
      have e' : mkB F83_b 0 lent = [[.list (.int .u8) (listOf (.int .u8) (nth (nthB lent 0) 0)) (.own false false)]] := by kernel_rfl
      obtain rfl := Nat.eq_of_beq_eq_true hp
      exact (h ((stringOf (nth (aggOf (nth args 1)) 0)), ((stringOf (nth (aggOf (nth args 1)) 1)), ((intOf (nth (aggOf (nth args 1)) 2)), ((intOf (nth (aggOf (nth args 1)) 3)), (listOf (.pair (.int .i64) (.pair (.int .i64) (.pair .str .bool))) (nth (aggOf (nth args 1)) 4)))))) (listOf (.int .u8) (nth (nthB lent 0) 0)) κ).symm.trans (cong2 (fun a l => (ev Try.prog cfg k).call 83 a l κ) (e.symm.trans (okC_eq hs.1).symm) (e'.symm.trans (okB_eq hs.2).symm))
    · rfl
  · rfl
theorem F83_k (gF17 : tF17) (gF15 : tF15) (gF13 : tF13) (gF131 : tF131) (gL83_0 : tL83_0) (cf : CallF) (lf : LoopF) (a1 : T13) (b0_0 : (List Int)) (κ : Res → Option Res) : evFn Try.prog cfg (F17_m gF17 (F15_m gF15 (F13_m gF13 (F131_m gF131 cf)))) (L83_0_m gL83_0 lf) 83 [.ref 0 0, .agg [.str a1.1, .str a1.2.1, .int .i64 a1.2.2.1, .int .i64 a1.2.2.2.1, .list (.pair (.int .i64) (.pair (.int .i64) (.pair .str .bool))) a1.2.2.2.2 .no]] [[.list (.int .u8) b0_0 (.own false false)]] κ = F83_B gF17 gF15 gF13 gF131 gL83_0 a1 b0_0 (fun x => κ ((.tup [], [[.list (.int .u8) x (.own false false)]]) : Res)) := by
  kernel_rfl
theorem F83_ev : ∀ (k : Nat) (a1 : T13) (b0_0 : (List Int)) (κ : Res → Option Res), (ev Try.prog cfg k).call 83 [.ref 0 0, .agg [.str a1.1, .str a1.2.1, .int .i64 a1.2.2.1, .int .i64 a1.2.2.2.1, .list (.pair (.int .i64) (.pair (.int .i64) (.pair .str .bool))) a1.2.2.2.2 .no]] [[.list (.int .u8) b0_0 (.own false false)]] κ = F83 k a1 b0_0 (fun x => κ ((.tup [], [[.list (.int .u8) x (.own false false)]]) : Res)) := by
  intro k
  induction k with
  | zero => intros; rfl
  | succ k ih =>
    intro a1 b0_0 κ
    refine (ev_call' Try.prog cfg k 83 1 _ _ κ (by rfl)).trans ?_
    rw [← F17_d k (F17_ev k), ← F15_d k (F15_ev k), ← F13_d k (F13_ev k), ← F131_d k (F131_ev k), ← L83_0_d k κ (L83_0_ev k κ)]
    exact F83_k _ _ _ _ _ _ _ a1 b0_0 κ
def F28_B  (b0_0 : (List Int)) (κ : (List Int) × (List Int) → Option Res) : Option Res :=
  chk1 (if false = true then
    (none)
   else
    (if (true && (true && decide (b0_0.length ≤ 1000000))) = true then κ (b0_0, b0_0) else none))
/-- (*lamplighter/codec.Writer).Bytes -/
def F28 : Nat → (List Int) → ((List Int) × (List Int) → Option Res) → Option Res
  | 0, _, _ => none
  | k + 1, b0_0, κ => F28_B  b0_0 κ
def F28_s : List SC := [.one (.ref 0 0)]
def F28_b : List (List SC) := [[.one (.list (.int .u8) (.own false false))]]
def F28_m (g : (List Int) → ((List Int) × (List Int) → Option Res) → Option Res) (cf : CallF) : CallF := fun f args lent κ => match Nat.beq f 28 with
  | true => match okC F28_s args && okB F28_b lent with
    | true => g (listOf (.int .u8) (nth (nthB lent 0) 0)) (fun x => κ ((.list (.int .u8) x.1 (.own false false), [[.list (.int .u8) x.2 (.own false false)]]) : Res))
    | false => cf f args lent κ
  | false => cf f args lent κ
theorem F28_d (k : Nat) (h : ∀ (b0_0 : (List Int)) (κ : Res → Option Res), (ev Try.prog cfg k).call 28 [.ref 0 0] [[.list (.int .u8) b0_0 (.own false false)]] κ = F28 k b0_0 (fun x => κ ((.list (.int .u8) x.1 (.own false false), [[.list (.int .u8) x.2 (.own false false)]]) : Res))) : F28_m (F28 k) (ev Try.prog cfg k).call = (ev Try.prog cfg k).call := by
  funext f args lent κ
  unfold F28_m
  split
  · rename_i hp
    split
    · rename_i hs
      rw [Bool.and_eq_true] at hs
      have e : mkC F28_s 0 args = [.ref 0 0] := by kernel_rfl
      have e' : mkB F28_b 0 lent = [[.list (.int .u8) (listOf (.int .u8) (nth (nthB lent 0) 0)) (.own false false)]] := by kernel_rfl
      obtain rfl := Nat.eq_of_beq_eq_true hp
      exact (h (listOf (.int .u8) (nth (nthB lent 0) 0)) κ).symm.trans (cong2 (fun a l => (ev Try.prog cfg k).call 28 a l κ) (e.symm.trans (okC_eq hs.1).symm) (e'.symm.trans (okB_eq hs.2).symm))
    · rfl
  · rfl
theorem F28_k  (cf : CallF) (lf : LoopF) (b0_0 : (List Int)) (κ : Res → Option Res) : evFn Try.prog cfg cf lf 28 [.ref 0 0] [[.list (.int .u8) b0_0 (.own false false)]] κ = F28_B  b0_0 (fun x => κ ((.list (.int .u8) x.1 (.own false false), [[.list (.int .u8) x.2 (.own false false)]]) : Res)) := by
  kernel_rfl
theorem F28_ev : ∀ (k : Nat) (b0_0 : (List Int)) (κ : Res → Option Res), (ev Try.prog cfg k).call 28 [.ref 0 0] [[.list (.int .u8) b0_0 (.own false false)]] κ = F28 k b0_0 (fun x => κ ((.list (.int .u8) x.1 (.own false false), [[.list (.int .u8) x.2 (.own false false)]]) : Res)) := by
  intro k
  induction k with
  | zero => intros; rfl
  | succ k ih =>
    intro b0_0 κ
    refine (ev_call' Try.prog cfg k 28 1 _ _ κ (by rfl)).trans ?_
    skip
    exact F28_k  _ _ b0_0 κ
def L31_0_B (gF83 : tF83) (gL31_0 : tL31_0) (κ : (List Int) → Option Res) (p0 : T14) (p1 : Int) (p2 : Int) (p3 : (List Int)) (K : Int × (List Int) → Option Res) : Option Res :=
  chk1 (if decide (p2 < p1) = true then
    (if (true && (decide ((0 : Int) ≤ p2) && decide (p2 < (p0.length : Int)))) = true then
     (chk4 (gF83 ((p0.getD p2.toNat ((⟨#[]⟩ : ByteArray), ((⟨#[]⟩ : ByteArray), ((0 : Int), ((0 : Int), ([] : List T2)))))).1, (((p0.getD p2.toNat ((⟨#[]⟩ : ByteArray), ((⟨#[]⟩ : ByteArray), ((0 : Int), ((0 : Int), ([] : List T2)))))).2).1, ((((p0.getD p2.toNat ((⟨#[]⟩ : ByteArray), ((⟨#[]⟩ : ByteArray), ((0 : Int), ((0 : Int), ([] : List T2)))))).2).2).1, ((((p0.getD p2.toNat ((⟨#[]⟩ : ByteArray), ((⟨#[]⟩ : ByteArray), ((0 : Int), ((0 : Int), ([] : List T2)))))).2).2).2)))) p3 fun x2 =>
      chk2 (gL31_0 p0 p1 (IntKind.wrap .i64 (p2 + (1 : Int))) x2 K)))
    else
     (none))
   else
    (K (p2, p3)))
def L31_0 : Nat → ((List Int) → Option Res) → T14 → Int → Int → (List Int) → (Int × (List Int) → Option Res) → Option Res
  | 0, _, _, _, _, _, _ => none
  | k + 1, κ, p0, p1, p2, p3, K => L31_0_B (F83 k) (fun p0 p1 p2 p3 K => L31_0 k κ p0 p1 p2 p3 K) κ p0 p1 p2 p3 K
def L31_0_s : Tr SC := Tr.of (nthD (.one .undef) [.one .undef, .one .undef, .one .undef, .one (.ref 7 0), .one .undef, .one .undef, .one .undef, .one (.ref 7 0), .one .undef, .one .undef, .one .undef, .one .undef, .one .undef, .one (.list (.pair .str (.pair .str (.pair (.int .i64) (.pair (.int .i64) (.list (.pair (.int .i64) (.pair (.int .i64) (.pair .str .bool)))))))) .no), .one (.int .i64), .one (.int .i64)]) 5
def L31_0_b : Tr (List SC) := Tr.of (nthD [] [[], [], [], [], [], [], [], [.one (.list (.int .u8) (.own false false))]]) 5
def L31_0_m (g : T14 → Int → Int → (List Int) → (Int × (List Int) → Option Res) → Option Res) (lf : LoopF) : LoopF := fun p σ K => match pathEq p [true, true, true, false, true, false] with
  | true => match okSt 25 L31_0_s L31_0_b σ with
    | true => g (listOf (.pair .str (.pair .str (.pair (.int .i64) (.pair (.int .i64) (.list (.pair (.int .i64) (.pair (.int .i64) (.pair .str .bool)))))))) (Tr.val .undef (Tr.rgt (Tr.rgt (Tr.lft σ.slots))))) (intOf (Tr.val .undef (Tr.rgt (Tr.rgt (Tr.rgt σ.slots))))) (intOf (Tr.val .undef (Tr.lft (Tr.lft (Tr.lft (Tr.lft σ.slots)))))) (listOf (.int .u8) (nth (Tr.val [] (Tr.lft (Tr.lft (Tr.lft σ.boxes)))) 0)) (fun v => K (.exit 0) ⟨25, Tr.of (nthD .undef [.undef, .undef, .undef, .ref 7 0, .undef, .undef, .undef, .ref 7 0, .undef, .undef, .undef, .undef, .undef, .list (.pair .str (.pair .str (.pair (.int .i64) (.pair (.int .i64) (.list (.pair (.int .i64) (.pair (.int .i64) (.pair .str .bool)))))))) (listOf (.pair .str (.pair .str (.pair (.int .i64) (.pair (.int .i64) (.list (.pair (.int .i64) (.pair (.int .i64) (.pair .str .bool)))))))) (Tr.val .undef (Tr.rgt (Tr.rgt (Tr.lft σ.slots))))) .no, .int .i64 (intOf (Tr.val .undef (Tr.rgt (Tr.rgt (Tr.rgt σ.slots))))), .int .i64 v.1]) 5, Tr.of (nthD [] [[], [], [], [], [], [], [], [.list (.int .u8) v.2 (.own false false)]]) 5⟩)
    | false => lf p σ K
  | false => lf p σ K
theorem L31_0_d (k : Nat) (κ : Res → Option Res) (h : ∀ (p0 : T14) (p1 : Int) (p2 : Int) (p3 : (List Int)) (K : Cont), (ev Try.prog cfg k).loop 31 0 κ [true, true, true, false, true, false] ⟨25, Tr.of (nthD .undef [.undef, .undef, .undef, .ref 7 0, .undef, .undef, .undef, .ref 7 0, .undef, .undef, .undef, .undef, .undef, .list (.pair .str (.pair .str (.pair (.int .i64) (.pair (.int .i64) (.list (.pair (.int .i64) (.pair (.int .i64) (.pair .str .bool)))))))) p0 .no, .int .i64 p1, .int .i64 p2]) 5, Tr.of (nthD [] [[], [], [], [], [], [], [], [.list (.int .u8) p3 (.own false false)]]) 5⟩ K = L31_0 k (fun x => κ ((.list (.int .u8) x (.own false false), []) : Res)) p0 p1 p2 p3 (fun v => K (.exit 0) ⟨25, Tr.of (nthD .undef [.undef, .undef, .undef, .ref 7 0, .undef, .undef, .undef, .ref 7 0, .undef, .undef, .undef, .undef, .undef, .list (.pair .str (.pair .str (.pair (.int .i64) (.pair (.int .i64) (.list (.pair (.int .i64) (.pair (.int .i64) (.pair .str .bool)))))))) p0 .no, .int .i64 p1, .int .i64 v.1]) 5, Tr.of (nthD [] [[], [], [], [], [], [], [], [.list (.int .u8) v.2 (.own false false)]]) 5⟩)) : L31_0_m (L31_0 k (fun x => κ ((.list (.int .u8) x (.own false false), []) : Res))) ((ev Try.prog cfg k).loop 31 0 κ) = (ev Try.prog cfg k).loop 31 0 κ := by
  funext p σ K
  unfold L31_0_m
  split
  · rename_i hp
    split
    · rename_i hs
      have e : mkSt 25 L31_0_s L31_0_b σ = ⟨25, Tr.of (nthD .undef [.undef, .undef, .undef, .ref 7 0, .undef, .undef, .undef, .ref 7 0, .undef, .undef, .undef, .undef, .undef, .list (.pair .str (.pair .str (.pair (.int .i64) (.pair (.int .i64) (.list (.pair (.int .i64) (.pair (.int .i64) (.pair .str .bool)))))))) (listOf (.pair .str (.pair .str (.pair (.int .i64) (.pair (.int .i64) (.list (.pair (.int .i64) (.pair (.int .i64) (.pair .str .bool)))))))) (Tr.val .undef (Tr.rgt (Tr.rgt (Tr.lft σ.slots))))) .no, .int .i64 (intOf (Tr.val .undef (Tr.rgt (Tr.rgt (Tr.rgt σ.slots))))), .int .i64 (intOf (Tr.val .undef (Tr.lft (Tr.lft (Tr.lft (Tr.lft σ.slots))))))]) 5, Tr.of (nthD [] [[], [], [], [], [], [], [], [.list (.int .u8) (listOf (.int .u8) (nth (Tr.val [] (Tr.lft (Tr.lft (Tr.lft σ.boxes)))) 0)) (.own false false)]]) 5⟩ := by kernel_rfl
      rw [pathEq_eq hp]
      exact (h (listOf (.pair .str (.pair .str (.pair (.int .i64) (.pair (.int .i64) (.list (.pair (.int .i64) (.pair (.int .i64) (.pair .str .bool)))))))) (Tr.val .undef (Tr.rgt (Tr.rgt (Tr.lft σ.slots))))) (intOf (Tr.val .undef (Tr.rgt (Tr.rgt (Tr.rgt σ.slots))))) (intOf (Tr.val .undef (Tr.lft (Tr.lft (Tr.lft (Tr.lft σ.slots)))))) (listOf (.int .u8) (nth (Tr.val [] (Tr.lft (Tr.lft (Tr.lft σ.boxes)))) 0)) K).symm.trans (congrArg (fun s => (ev Try.prog cfg k).loop 31 0 κ [true, true, true, false, true, false] s K) (e.symm.trans (okSt_eq hs).symm))
    · rfl
  · rfl
theorem L31_0_k (gF83 : tF83) (gL31_0 : tL31_0) (cf : CallF) (lf : LoopF) (κ : Res → Option Res) (p0 : T14) (p1 : Int) (p2 : Int) (p3 : (List Int)) (K : Cont) : evLp Try.prog cfg (F83_m gF83 cf) (L31_0_m gL31_0 lf) 31 0 κ [true, true, true, false, true, false] ⟨25, Tr.of (nthD .undef [.undef, .undef, .undef, .ref 7 0, .undef, .undef, .undef, .ref 7 0, .undef, .undef, .undef, .undef, .undef, .list (.pair .str (.pair .str (.pair (.int .i64) (.pair (.int .i64) (.list (.pair (.int .i64) (.pair (.int .i64) (.pair .str .bool)))))))) p0 .no, .int .i64 p1, .int .i64 p2]) 5, Tr.of (nthD [] [[], [], [], [], [], [], [], [.list (.int .u8) p3 (.own false false)]]) 5⟩ K = L31_0_B gF83 gL31_0 (fun x => κ ((.list (.int .u8) x (.own false false), []) : Res)) p0 p1 p2 p3 (fun v => K (.exit 0) ⟨25, Tr.of (nthD .undef [.undef, .undef, .undef, .ref 7 0, .undef, .undef, .undef, .ref 7 0, .undef, .undef, .undef, .undef, .undef, .list (.pair .str (.pair .str (.pair (.int .i64) (.pair (.int .i64) (.list (.pair (.int .i64) (.pair (.int .i64) (.pair .str .bool)))))))) p0 .no, .int .i64 p1, .int .i64 v.1]) 5, Tr.of (nthD [] [[], [], [], [], [], [], [], [.list (.int .u8) v.2 (.own false false)]]) 5⟩) := by
  kernel_rfl
theorem L31_0_ev : ∀ (k : Nat) (κ : Res → Option Res) (p0 : T14) (p1 : Int) (p2 : Int) (p3 : (List Int)) (K : Cont), (ev Try.prog cfg k).loop 31 0 κ [true, true, true, false, true, false] ⟨25, Tr.of (nthD .undef [.undef, .undef, .undef, .ref 7 0, .undef, .undef, .undef, .ref 7 0, .undef, .undef, .undef, .undef, .undef, .list (.pair .str (.pair .str (.pair (.int .i64) (.pair (.int .i64) (.list (.pair (.int .i64) (.pair (.int .i64) (.pair .str .bool)))))))) p0 .no, .int .i64 p1, .int .i64 p2]) 5, Tr.of (nthD [] [[], [], [], [], [], [], [], [.list (.int .u8) p3 (.own false false)]]) 5⟩ K = L31_0 k (fun x => κ ((.list (.int .u8) x (.own false false), []) : Res)) p0 p1 p2 p3 (fun v => K (.exit 0) ⟨25, Tr.of (nthD .undef [.undef, .undef, .undef, .ref 7 0, .undef, .undef, .undef, .ref 7 0, .undef, .undef, .undef, .undef, .undef, .list (.pair .str (.pair .str (.pair (.int .i64) (.pair (.int .i64) (.list (.pair (.int .i64) (.pair (.int .i64) (.pair .str .bool)))))))) p0 .no, .int .i64 p1, .int .i64 v.1]) 5, Tr.of (nthD [] [[], [], [], [], [], [], [], [.list (.int .u8) v.2 (.own false false)]]) 5⟩) := by
  intro k κ
  induction k with
  | zero => intro p0 p1 p2 p3 K; rfl
  | succ k ih =>
    intro p0 p1 p2 p3 K
    rw [ev_loop, ← F83_d k (F83_ev k), ← L31_0_d k κ ih]
    exact L31_0_k _ _ _ _ κ p0 p1 p2 p3 K
def F31_B (gF13 : tF13) (gF83 : tF83) (gF28 : tF28) (gL31_0 : tL31_0) (a0 : T14) (κ : (List Int) → Option Res) : Option Res :=
  chk5 (gF13 (IntKind.wrap .u64 ((a0.length : Int))) ([] : List Int) fun x1 =>
   chk2 (gL31_0 a0 (a0.length : Int) (0 : Int) x1 fun v3 =>
    chk1 (gF28 v3.2 fun x4 =>
     chk1 (κ x4.1))))
/-- lamplighter/codec.Events -/
def F31 : Nat → T14 → ((List Int) → Option Res) → Option Res
  | 0, _, _ => none
  | k + 1, a0, κ => F31_B (F13 k) (F83 k) (F28 k) (L31_0 k κ) a0 κ
def F31_s : List SC := [.one (.list (.pair .str (.pair .str (.pair (.int .i64) (.pair (.int .i64) (.list (.pair (.int .i64) (.pair (.int .i64) (.pair .str .bool)))))))) .no)]
def F31_b : List (List SC) := []
def F31_m (g : T14 → ((List Int) → Option Res) → Option Res) (cf : CallF) : CallF := fun f args lent κ => match Nat.beq f 31 with
  | true => match okC F31_s args && okB F31_b lent with
    | true => g (listOf (.pair .str (.pair .str (.pair (.int .i64) (.pair (.int .i64) (.list (.pair (.int .i64) (.pair (.int .i64) (.pair .str .bool)))))))) (nth args 0)) (fun x => κ ((.list (.int .u8) x (.own false false), []) : Res))
    | false => cf f args lent κ
  | false => cf f args lent κ
theorem F31_d (k : Nat) (h : ∀ (a0 : T14) (κ : Res → Option Res), (ev Try.prog cfg k).call 31 [.list (.pair .str (.pair .str (.pair (.int .i64) (.pair (.int .i64) (.list (.pair (.int .i64) (.pair (.int .i64) (.pair .str .bool)))))))) a0 .no] [] κ = F31 k a0 (fun x => κ ((.list (.int .u8) x (.own false false), []) : Res))) : F31_m (F31 k) (ev Try.prog cfg k).call = (ev Try.prog cfg k).call := by
  funext f args lent κ
  unfold F31_m
  split
  · rename_i hp
    split
    · rename_i hs
      rw [Bool.and_eq_true] at hs
      have e : mkC F31_s 0 args = [.list (.pair .str (.pair .str (.pair (.int .i64) (.pair (.int .i64) (.list (.pair (.int .i64) (.pair (.int .i64) (.pair .str .bool)))))))) (listOf (.pair .str (.pair .str (.pair (.int .i64) (.pair (.int .i64) (.list (.pair (.int .i64) (.pair (.int .i64) (.pair .str .bool)))))))) (nth args 0)) .no] := by kernel_rfl
      have e' : mkB F31_b 0 lent = [] := by kernel_rfl
      obtain rfl := Nat.eq_of_beq_eq_true hp
      exact (h (listOf (.pair .str (.pair .str (.pair (.int .i64) (.pair (.int .i64) (.list (.pair (.int .i64) (.pair (.int .i64) (.pair .str .bool)))))))) (nth args 0)) κ).symm.trans (cong2 (fun a l => (ev Try.prog cfg k).call 31 a l κ) (e.symm.trans (okC_eq hs.1).symm) (e'.symm.trans (okB_eq hs.2).symm))
    · rfl
  · rfl
theorem F31_k (gF13 : tF13) (gF83 : tF83) (gF28 : tF28) (gL31_0 : tL31_0) (cf : CallF) (lf : LoopF) (a0 : T14) (κ : Res → Option Res) : evFn Try.prog cfg (F13_m gF13 (F83_m gF83 (F28_m gF28 cf))) (L31_0_m gL31_0 lf) 31 [.list (.pair .str (.pair .str (.pair (.int .i64) (.pair (.int .i64) (.list (.pair (.int .i64) (.pair (.int .i64) (.pair .str .bool)))))))) a0 .no] [] κ = F31_B gF13 gF83 gF28 gL31_0 a0 (fun x => κ ((.list (.int .u8) x (.own false false), []) : Res)) := by
  kernel_rfl
theorem F31_ev : ∀ (k : Nat) (a0 : T14) (κ : Res → Option Res), (ev Try.prog cfg k).call 31 [.list (.pair .str (.pair .str (.pair (.int .i64) (.pair (.int .i64) (.list (.pair (.int .i64) (.pair (.int .i64) (.pair .str .bool)))))))) a0 .no] [] κ = F31 k a0 (fun x => κ ((.list (.int .u8) x (.own false false), []) : Res)) := by
  intro k
  induction k with
  | zero => intros; rfl
  | succ k ih =>
    intro a0 κ
    refine (ev_call' Try.prog cfg k 31 0 _ _ κ (by rfl)).trans ?_
    rw [← F13_d k (F13_ev k), ← F83_d k (F83_ev k), ← F28_d k (F28_ev k), ← L31_0_d k κ (L31_0_ev k κ)]
    exact F31_k _ _ _ _ _ _ a0 κ
def F21_B  (a0 : (List Int)) (κ : (List Int) × Int → Option Res) : Option Res :=
  if (true && (true && decide (a0.length ≤ 1000000))) = true then chk3 (κ (a0, (0 : Int))) else none
/-- lamplighter/codec.Read -/
def F21 : Nat → (List Int) → ((List Int) × Int → Option Res) → Option Res
  | 0, _, _ => none
  | k + 1, a0, κ => F21_B  a0 κ
def F21_s : List SC := [.one (.list (.int .u8) .no)]
def F21_b : List (List SC) := []
def F21_m (g : (List Int) → ((List Int) × Int → Option Res) → Option Res) (cf : CallF) : CallF := fun f args lent κ => match Nat.beq f 21 with
  | true => match okC F21_s args && okB F21_b lent with
    | true => g (listOf (.int .u8) (nth args 0)) (fun x => κ ((.ref 0 0, [[.list (.int .u8) x.1 (.own false false), .int .i64 x.2]]) : Res))
    | false => cf f args lent κ
  | false => cf f args lent κ
theorem F21_d (k : Nat) (h : ∀ (a0 : (List Int)) (κ : Res → Option Res), (ev Try.prog cfg k).call 21 [.list (.int .u8) a0 .no] [] κ = F21 k a0 (fun x => κ ((.ref 0 0, [[.list (.int .u8) x.1 (.own false false), .int .i64 x.2]]) : Res))) : F21_m (F21 k) (ev Try.prog cfg k).call = (ev Try.prog cfg k).call := by
  funext f args lent κ
  unfold F21_m
  split
  · rename_i hp
    split
    · rename_i hs
      rw [Bool.and_eq_true] at hs
      have e : mkC F21_s 0 args = [.list (.int .u8) (listOf (.int .u8) (nth args 0)) .no] := by kernel_rfl
      have e' : mkB F21_b 0 lent = [] := by kernel_rfl
      obtain rfl := Nat.eq_of_beq_eq_true hp
      exact (h (listOf (.int .u8) (nth args 0)) κ).symm.trans (cong2 (fun a l => (ev Try.prog cfg k).call 21 a l κ) (e.symm.trans (okC_eq hs.1).symm) (e'.symm.trans (okB_eq hs.2).symm))
    · rfl
  · rfl
theorem F21_k  (cf : CallF) (lf : LoopF) (a0 : (List Int)) (κ : Res → Option Res) : evFn Try.prog cfg cf lf 21 [.list (.int .u8) a0 .no] [] κ = F21_B  a0 (fun x => κ ((.ref 0 0, [[.list (.int .u8) x.1 (.own false false), .int .i64 x.2]]) : Res)) := by
  kernel_rfl
theorem F21_ev : ∀ (k : Nat) (a0 : (List Int)) (κ : Res → Option Res), (ev Try.prog cfg k).call 21 [.list (.int .u8) a0 .no] [] κ = F21 k a0 (fun x => κ ((.ref 0 0, [[.list (.int .u8) x.1 (.own false false), .int .i64 x.2]]) : Res)) := by
  intro k
  induction k with
  | zero => intros; rfl
  | succ k ih =>
    intro a0 κ
    refine (ev_call' Try.prog cfg k 21 0 _ _ κ (by rfl)).trans ?_
    skip
    exact F21_k  _ _ a0 κ
def F29_B  (b0_0 : (List Int)) (b0_1 : Int) (κ : Int × (List Int) × Int → Option Res) : Option Res :=
  chk1 (if false = true then
    (none)
   else
    (chk1 (κ ((b0_0.length : Int), (b0_0, b0_1)))))
/-- (*lamplighter/codec.Reader).Left -/
def F29 : Nat → (List Int) → Int → (Int × (List Int) × Int → Option Res) → Option Res
  | 0, _, _, _ => none
  | k + 1, b0_0, b0_1, κ => F29_B  b0_0 b0_1 κ
def F29_s : List SC := [.one (.ref 0 0)]
def F29_b : List (List SC) := [[.one (.list (.int .u8) (.own false false)), .one (.int .i64)]]
def F29_m (g : (List Int) → Int → (Int × (List Int) × Int → Option Res) → Option Res) (cf : CallF) : CallF := fun f args lent κ => match Nat.beq f 29 with
  | true => match okC F29_s args && okB F29_b lent with
    | true => g (listOf (.int .u8) (nth (nthB lent 0) 0)) (intOf (nth (nthB lent 0) 1)) (fun x => κ ((.int .i64 x.1, [[.list (.int .u8) x.2.1 (.own false false), .int .i64 x.2.2]]) : Res))
    | false => cf f args lent κ
  | false => cf f args lent κ
theorem F29_d (k : Nat) (h : ∀ (b0_0 : (List Int)) (b0_1 : Int) (κ : Res → Option Res), (ev Try.prog cfg k).call 29 [.ref 0 0] [[.list (.int .u8) b0_0 (.own false false), .int .i64 b0_1]] κ = F29 k b0_0 b0_1 (fun x => κ ((.int .i64 x.1, [[.list (.int .u8) x.2.1 (.own false false), .int .i64 x.2.2]]) : Res))) : F29_m (F29 k) (ev Try.prog cfg k).call = (ev Try.prog cfg k).call := by
  funext f args lent κ
  unfold F29_m
  split
  · rename_i hp
    split
    · rename_i hs
      rw [Bool.and_eq_true] at hs
      have e : mkC F29_s 0 args = [.ref 0 0] := by kernel_rfl
      have e' : mkB F29_b 0 lent = [[.list (.int .u8) (listOf (.int .u8) (nth (nthB lent 0) 0)) (.own false false), .int .i64 (intOf (nth (nthB lent 0) 1))]] := by kernel_rfl
      obtain rfl := Nat.eq_of_beq_eq_true hp
      exact (h (listOf (.int .u8) (nth (nthB lent 0) 0)) (intOf (nth (nthB lent 0) 1)) κ).symm.trans (cong2 (fun a l => (ev Try.prog cfg k).call 29 a l κ) (e.symm.trans (okC_eq hs.1).symm) (e'.symm.trans (okB_eq hs.2).symm))
    · rfl
  · rfl
theorem F29_k  (cf : CallF) (lf : LoopF) (b0_0 : (List Int)) (b0_1 : Int) (κ : Res → Option Res) : evFn Try.prog cfg cf lf 29 [.ref 0 0] [[.list (.int .u8) b0_0 (.own false false), .int .i64 b0_1]] κ = F29_B  b0_0 b0_1 (fun x => κ ((.int .i64 x.1, [[.list (.int .u8) x.2.1 (.own false false), .int .i64 x.2.2]]) : Res)) := by
  kernel_rfl
theorem F29_ev : ∀ (k : Nat) (b0_0 : (List Int)) (b0_1 : Int) (κ : Res → Option Res), (ev Try.prog cfg k).call 29 [.ref 0 0] [[.list (.int .u8) b0_0 (.own false false), .int .i64 b0_1]] κ = F29 k b0_0 b0_1 (fun x => κ ((.int .i64 x.1, [[.list (.int .u8) x.2.1 (.own false false), .int .i64 x.2.2]]) : Res)) := by
  intro k
  induction k with
  | zero => intros; rfl
  | succ k ih =>
    intro b0_0 b0_1 κ
    refine (ev_call' Try.prog cfg k 29 1 _ _ κ (by rfl)).trans ?_
    skip
    exact F29_k  _ _ b0_0 b0_1 κ
def F29v1_B  (b0_0 : (List Int)) (b0_1 : Int) (κ : Int × (List Int) × Int → Option Res) : Option Res :=
  chk1 (if false = true then
    (none)
   else
    (chk1 (κ ((b0_0.length : Int), (b0_0, b0_1)))))
/-- (*lamplighter/codec.Reader).Left -/
def F29v1 : Nat → (List Int) → Int → (Int × (List Int) × Int → Option Res) → Option Res
  | 0, _, _, _ => none
  | k + 1, b0_0, b0_1, κ => F29v1_B  b0_0 b0_1 κ
def F29v1_s : List SC := [.one (.ref 0 0)]
def F29v1_b : List (List SC) := [[.one (.list (.int .u8) (.own true false)), .one (.int .i64)]]
def F29v1_m (g : (List Int) → Int → (Int × (List Int) × Int → Option Res) → Option Res) (cf : CallF) : CallF := fun f args lent κ => match Nat.beq f 29 with
  | true => match okC F29v1_s args && okB F29v1_b lent with
    | true => g (listOf (.int .u8) (nth (nthB lent 0) 0)) (intOf (nth (nthB lent 0) 1)) (fun x => κ ((.int .i64 x.1, [[.list (.int .u8) x.2.1 (.own true false), .int .i64 x.2.2]]) : Res))
    | false => cf f args lent κ
  | false => cf f args lent κ
theorem F29v1_d (k : Nat) (h : ∀ (b0_0 : (List Int)) (b0_1 : Int) (κ : Res → Option Res), (ev Try.prog cfg k).call 29 [.ref 0 0] [[.list (.int .u8) b0_0 (.own true false), .int .i64 b0_1]] κ = F29v1 k b0_0 b0_1 (fun x => κ ((.int .i64 x.1, [[.list (.int .u8) x.2.1 (.own true false), .int .i64 x.2.2]]) : Res))) : F29v1_m (F29v1 k) (ev Try.prog cfg k).call = (ev Try.prog cfg k).call := by
  funext f args lent κ
  unfold F29v1_m
  split
  · rename_i hp
    split
    · rename_i hs
      rw [Bool.and_eq_true] at hs
      have e : mkC F29v1_s 0 args = [.ref 0 0] := by kernel_rfl
      have e' : mkB F29v1_b 0 lent = [[.list (.int .u8) (listOf (.int .u8) (nth (nthB lent 0) 0)) (.own true false), .int .i64 (intOf (nth (nthB lent 0) 1))]] := by kernel_rfl
      obtain rfl := Nat.eq_of_beq_eq_true hp
      exact (h (listOf (.int .u8) (nth (nthB lent 0) 0)) (intOf (nth (nthB lent 0) 1)) κ).symm.trans (cong2 (fun a l => (ev Try.prog cfg k).call 29 a l κ) (e.symm.trans (okC_eq hs.1).symm) (e'.symm.trans (okB_eq hs.2).symm))
    · rfl
  · rfl
theorem F29v1_k  (cf : CallF) (lf : LoopF) (b0_0 : (List Int)) (b0_1 : Int) (κ : Res → Option Res) : evFn Try.prog cfg cf lf 29 [.ref 0 0] [[.list (.int .u8) b0_0 (.own true false), .int .i64 b0_1]] κ = F29v1_B  b0_0 b0_1 (fun x => κ ((.int .i64 x.1, [[.list (.int .u8) x.2.1 (.own true false), .int .i64 x.2.2]]) : Res)) := by
  kernel_rfl
theorem F29v1_ev : ∀ (k : Nat) (b0_0 : (List Int)) (b0_1 : Int) (κ : Res → Option Res), (ev Try.prog cfg k).call 29 [.ref 0 0] [[.list (.int .u8) b0_0 (.own true false), .int .i64 b0_1]] κ = F29v1 k b0_0 b0_1 (fun x => κ ((.int .i64 x.1, [[.list (.int .u8) x.2.1 (.own true false), .int .i64 x.2.2]]) : Res)) := by
  intro k
  induction k with
  | zero => intros; rfl
  | succ k ih =>
    intro b0_0 b0_1 κ
    refine (ev_call' Try.prog cfg k 29 1 _ _ κ (by rfl)).trans ?_
    skip
    exact F29v1_k  _ _ b0_0 b0_1 κ
def F29v2_B  (b0_0 : (List Int)) (b0_1 : Int) (κ : Int × (List Int) × Int → Option Res) : Option Res :=
  chk1 (if false = true then
    (none)
   else
    (chk1 (κ ((b0_0.length : Int), (b0_0, b0_1)))))
/-- (*lamplighter/codec.Reader).Left -/
def F29v2 : Nat → (List Int) → Int → (Int × (List Int) × Int → Option Res) → Option Res
  | 0, _, _, _ => none
  | k + 1, b0_0, b0_1, κ => F29v2_B  b0_0 b0_1 κ
def F29v2_s : List SC := [.one (.ref 0 0)]
def F29v2_b : List (List SC) := [[.one (.list (.int .u8) .no), .one (.int .i64)]]
def F29v2_m (g : (List Int) → Int → (Int × (List Int) × Int → Option Res) → Option Res) (cf : CallF) : CallF := fun f args lent κ => match Nat.beq f 29 with
  | true => match okC F29v2_s args && okB F29v2_b lent with
    | true => g (listOf (.int .u8) (nth (nthB lent 0) 0)) (intOf (nth (nthB lent 0) 1)) (fun x => κ ((.int .i64 x.1, [[.list (.int .u8) x.2.1 .no, .int .i64 x.2.2]]) : Res))
    | false => cf f args lent κ
  | false => cf f args lent κ
theorem F29v2_d (k : Nat) (h : ∀ (b0_0 : (List Int)) (b0_1 : Int) (κ : Res → Option Res), (ev Try.prog cfg k).call 29 [.ref 0 0] [[.list (.int .u8) b0_0 .no, .int .i64 b0_1]] κ = F29v2 k b0_0 b0_1 (fun x => κ ((.int .i64 x.1, [[.list (.int .u8) x.2.1 .no, .int .i64 x.2.2]]) : Res))) : F29v2_m (F29v2 k) (ev Try.prog cfg k).call = (ev Try.prog cfg k).call := by
  funext f args lent κ
  unfold F29v2_m
  split
  · rename_i hp
    split
    · rename_i hs
      rw [Bool.and_eq_true] at hs
      have e : mkC F29v2_s 0 args = [.ref 0 0] := by kernel_rfl
      have e' : mkB F29v2_b 0 lent = [[.list (.int .u8) (listOf (.int .u8) (nth (nthB lent 0) 0)) .no, .int .i64 (intOf (nth (nthB lent 0) 1))]] := by kernel_rfl
      obtain rfl := Nat.eq_of_beq_eq_true hp
      exact (h (listOf (.int .u8) (nth (nthB lent 0) 0)) (intOf (nth (nthB lent 0) 1)) κ).symm.trans (cong2 (fun a l => (ev Try.prog cfg k).call 29 a l κ) (e.symm.trans (okC_eq hs.1).symm) (e'.symm.trans (okB_eq hs.2).symm))
    · rfl
  · rfl
theorem F29v2_k  (cf : CallF) (lf : LoopF) (b0_0 : (List Int)) (b0_1 : Int) (κ : Res → Option Res) : evFn Try.prog cfg cf lf 29 [.ref 0 0] [[.list (.int .u8) b0_0 .no, .int .i64 b0_1]] κ = F29v2_B  b0_0 b0_1 (fun x => κ ((.int .i64 x.1, [[.list (.int .u8) x.2.1 .no, .int .i64 x.2.2]]) : Res)) := by
  kernel_rfl
theorem F29v2_ev : ∀ (k : Nat) (b0_0 : (List Int)) (b0_1 : Int) (κ : Res → Option Res), (ev Try.prog cfg k).call 29 [.ref 0 0] [[.list (.int .u8) b0_0 .no, .int .i64 b0_1]] κ = F29v2 k b0_0 b0_1 (fun x => κ ((.int .i64 x.1, [[.list (.int .u8) x.2.1 .no, .int .i64 x.2.2]]) : Res)) := by
  intro k
  induction k with
  | zero => intros; rfl
  | succ k ih =>
    intro b0_0 b0_1 κ
    refine (ev_call' Try.prog cfg k 29 1 _ _ κ (by rfl)).trans ?_
    skip
    exact F29v2_k  _ _ b0_0 b0_1 κ
def F81_B  (a1 : Int) (b0_0 : (List Int)) (b0_1 : Int) (κ : (List Int) × Int → Option Res) : Option Res :=
  chk3 (if (b0_1 == (0 : Int)) = true then
    (chk1 (if (a1 != (0 : Int)) = true then
      (chk4 (κ (([] : List Int), a1)))
     else
      (κ (b0_0, b0_1))))
   else
    (if false = true then
     (none)
    else
     (κ (b0_0, b0_1))))
/-- (*lamplighter/codec.Reader).Wrong -/
def F81 : Nat → Int → (List Int) → Int → ((List Int) × Int → Option Res) → Option Res
  | 0, _, _, _, _ => none
  | k + 1, a1, b0_0, b0_1, κ => F81_B  a1 b0_0 b0_1 κ
def F81_s : List SC := [.one (.ref 0 0), .one (.int .i64)]
def F81_b : List (List SC) := [[.one (.list (.int .u8) .no), .one (.int .i64)]]
def F81_m (g : Int → (List Int) → Int → ((List Int) × Int → Option Res) → Option Res) (cf : CallF) : CallF := fun f args lent κ => match Nat.beq f 81 with
  | true => match okC F81_s args && okB F81_b lent with
    | true => g (intOf (nth args 1)) (listOf (.int .u8) (nth (nthB lent 0) 0)) (intOf (nth (nthB lent 0) 1)) (fun x => κ ((.tup [], [[.list (.int .u8) x.1 .no, .int .i64 x.2]]) : Res))
    | false => cf f args lent κ
  | false => cf f args lent κ
theorem F81_d (k : Nat) (h : ∀ (a1 : Int) (b0_0 : (List Int)) (b0_1 : Int) (κ : Res → Option Res), (ev Try.prog cfg k).call 81 [.ref 0 0, .int .i64 a1] [[.list (.int .u8) b0_0 .no, .int .i64 b0_1]] κ = F81 k a1 b0_0 b0_1 (fun x => κ ((.tup [], [[.list (.int .u8) x.1 .no, .int .i64 x.2]]) : Res))) : F81_m (F81 k) (ev Try.prog cfg k).call = (ev Try.prog cfg k).call := by
  funext f args lent κ
  unfold F81_m
  split
  · rename_i hp
    split
    · rename_i hs
      rw [Bool.and_eq_true] at hs
      have e : mkC F81_s 0 args = [.ref 0 0, .int .i64 (intOf (nth args 1))] := by kernel_rfl
      have e' : mkB F81_b 0 lent = [[.list (.int .u8) (listOf (.int .u8) (nth (nthB lent 0) 0)) .no, .int .i64 (intOf (nth (nthB lent 0) 1))]] := by kernel_rfl
      obtain rfl := Nat.eq_of_beq_eq_true hp
      exact (h (intOf (nth args 1)) (listOf (.int .u8) (nth (nthB lent 0) 0)) (intOf (nth (nthB lent 0) 1)) κ).symm.trans (cong2 (fun a l => (ev Try.prog cfg k).call 81 a l κ) (e.symm.trans (okC_eq hs.1).symm) (e'.symm.trans (okB_eq hs.2).symm))
    · rfl
  · rfl
theorem F81_k  (cf : CallF) (lf : LoopF) (a1 : Int) (b0_0 : (List Int)) (b0_1 : Int) (κ : Res → Option Res) : evFn Try.prog cfg cf lf 81 [.ref 0 0, .int .i64 a1] [[.list (.int .u8) b0_0 .no, .int .i64 b0_1]] κ = F81_B  a1 b0_0 b0_1 (fun x => κ ((.tup [], [[.list (.int .u8) x.1 .no, .int .i64 x.2]]) : Res)) := by
  kernel_rfl
theorem F81_ev : ∀ (k : Nat) (a1 : Int) (b0_0 : (List Int)) (b0_1 : Int) (κ : Res → Option Res), (ev Try.prog cfg k).call 81 [.ref 0 0, .int .i64 a1] [[.list (.int .u8) b0_0 .no, .int .i64 b0_1]] κ = F81 k a1 b0_0 b0_1 (fun x => κ ((.tup [], [[.list (.int .u8) x.1 .no, .int .i64 x.2]]) : Res)) := by
  intro k
  induction k with
  | zero => intros; rfl
  | succ k ih =>
    intro a1 b0_0 b0_1 κ
    refine (ev_call' Try.prog cfg k 81 1 _ _ κ (by rfl)).trans ?_
    skip
    exact F81_k  _ _ a1 b0_0 b0_1 κ
def L22_0_B (gF29v2 : tF29v2) (gL22_0 : tL22_0) (κ : Int × (List Int) × Int → Option Res) (p0 : Int) (p1 : Int) (p2 : (List Int)) (p3 : Int) (K : Int × Int × (List Int) × Int → Option Res) : Option Res :=
  chk1 (if decide (p1 < (10 : Int)) = true then
    (chk1 (gF29v2 p2 p3 fun x1 =>
     chk2 (if (x1.1 == (0 : Int)) = true then
       (K (p0, (p1, (x1.2.1, x1.2.2))))
      else
       (if (true && (true && decide ((0 : Int) < (x1.2.1.length : Int)))) = true then
        (if (true && (decide ((1 : Int) ≤ (x1.2.1.length : Int)) && decide ((x1.2.1.length : Int) ≤ (x1.2.1.length : Int)))) = true then
         (chk5 (if decide ((0 : Int) ≤ (IntKind.wrap .i64 ((7 : Int) * p1))) = true then
           (chk2 (if decide ((x1.2.1.getD (0 : Int).toNat (0 : Int)) ≥ (128 : Int)) = true then
             (chk1 (gL22_0 (bits .or .u64 p0 (IntKind.wrap .u64 ((IntKind.wrap .u64 ((bits .and .u8 (x1.2.1.getD (0 : Int).toNat (0 : Int)) (127 : Int)))) * 2 ^ min ((IntKind.wrap .i64 ((7 : Int) * p1))).toNat (IntKind.bits .u64)))) (IntKind.wrap .i64 (p1 + (1 : Int))) ((x1.2.1.take (x1.2.1.length : Int).toNat).drop (1 : Int).toNat) x1.2.2 K))
            else
             (chk1 (if decide (p1 > (0 : Int)) = true then
               (chk1 (if ((x1.2.1.getD (0 : Int).toNat (0 : Int)) == (0 : Int)) = true then
                 (chk1 (K ((bits .or .u64 p0 (IntKind.wrap .u64 ((IntKind.wrap .u64 ((bits .and .u8 (x1.2.1.getD (0 : Int).toNat (0 : Int)) (127 : Int)))) * 2 ^ min ((IntKind.wrap .i64 ((7 : Int) * p1))).toNat (IntKind.bits .u64)))), (p1, (((x1.2.1.take (x1.2.1.length : Int).toNat).drop (1 : Int).toNat), x1.2.2)))))
                else
                 (chk1 (if (p1 == (9 : Int)) = true then
                   (chk1 (if decide ((x1.2.1.getD (0 : Int).toNat (0 : Int)) > (1 : Int)) = true then
                     (K ((bits .or .u64 p0 (IntKind.wrap .u64 ((IntKind.wrap .u64 ((bits .and .u8 (x1.2.1.getD (0 : Int).toNat (0 : Int)) (127 : Int)))) * 2 ^ min ((IntKind.wrap .i64 ((7 : Int) * p1))).toNat (IntKind.bits .u64)))), (p1, (((x1.2.1.take (x1.2.1.length : Int).toNat).drop (1 : Int).toNat), x1.2.2))))
                    else
                     (κ ((bits .or .u64 p0 (IntKind.wrap .u64 ((IntKind.wrap .u64 ((bits .and .u8 (x1.2.1.getD (0 : Int).toNat (0 : Int)) (127 : Int)))) * 2 ^ min ((IntKind.wrap .i64 ((7 : Int) * p1))).toNat (IntKind.bits .u64)))), (((x1.2.1.take (x1.2.1.length : Int).toNat).drop (1 : Int).toNat), x1.2.2)))))
                  else
                   (if false = true then
                    (none)
                   else
                    (κ ((bits .or .u64 p0 (IntKind.wrap .u64 ((IntKind.wrap .u64 ((bits .and .u8 (x1.2.1.getD (0 : Int).toNat (0 : Int)) (127 : Int)))) * 2 ^ min ((IntKind.wrap .i64 ((7 : Int) * p1))).toNat (IntKind.bits .u64)))), (((x1.2.1.take (x1.2.1.length : Int).toNat).drop (1 : Int).toNat), x1.2.2))))))))
              else
               (if false = true then
                (none)
               else
                (chk1 (if (p1 == (9 : Int)) = true then
                  (chk1 (if decide ((x1.2.1.getD (0 : Int).toNat (0 : Int)) > (1 : Int)) = true then
                    (K ((bits .or .u64 p0 (IntKind.wrap .u64 ((IntKind.wrap .u64 ((bits .and .u8 (x1.2.1.getD (0 : Int).toNat (0 : Int)) (127 : Int)))) * 2 ^ min ((IntKind.wrap .i64 ((7 : Int) * p1))).toNat (IntKind.bits .u64)))), (p1, (((x1.2.1.take (x1.2.1.length : Int).toNat).drop (1 : Int).toNat), x1.2.2))))
                   else
                    (κ ((bits .or .u64 p0 (IntKind.wrap .u64 ((IntKind.wrap .u64 ((bits .and .u8 (x1.2.1.getD (0 : Int).toNat (0 : Int)) (127 : Int)))) * 2 ^ min ((IntKind.wrap .i64 ((7 : Int) * p1))).toNat (IntKind.bits .u64)))), (((x1.2.1.take (x1.2.1.length : Int).toNat).drop (1 : Int).toNat), x1.2.2)))))
                 else
                  (if false = true then
                   (none)
                  else
                   (κ ((bits .or .u64 p0 (IntKind.wrap .u64 ((IntKind.wrap .u64 ((bits .and .u8 (x1.2.1.getD (0 : Int).toNat (0 : Int)) (127 : Int)))) * 2 ^ min ((IntKind.wrap .i64 ((7 : Int) * p1))).toNat (IntKind.bits .u64)))), (((x1.2.1.take (x1.2.1.length : Int).toNat).drop (1 : Int).toNat), x1.2.2)))))))))))
          else
           (none)))
        else
         (none))
       else
        (none)))))
   else
    (K (p0, (p1, (p2, p3)))))
def L22_0 : Nat → (Int × (List Int) × Int → Option Res) → Int → Int → (List Int) → Int → (Int × Int × (List Int) × Int → Option Res) → Option Res
  | 0, _, _, _, _, _, _ => none
  | k + 1, κ, p0, p1, p2, p3, K => L22_0_B (F29v2 k) (fun p0 p1 p2 p3 K => L22_0 k κ p0 p1 p2 p3 K) κ p0 p1 p2 p3 K
def L22_0_s : Tr SC := Tr.of (nthD (.one .undef) [.one (.ref 54 0), .one .undef, .one .undef, .one (.int .u64), .one (.int .i64)]) 6
def L22_0_b : Tr (List SC) := Tr.of (nthD [] [[], [], [], [], [], [], [], [], [], [], [], [], [], [], [], [], [], [], [], [], [], [], [], [], [], [], [], [], [], [], [], [], [], [], [], [], [], [], [], [], [], [], [], [], [], [], [], [], [], [], [], [], [], [], [.one (.list (.int .u8) .no), .one (.int .i64)]]) 6
def L22_0_m (g : Int → Int → (List Int) → Int → (Int × Int × (List Int) × Int → Option Res) → Option Res) (lf : LoopF) : LoopF := fun p σ K => match pathEq p [true, true, false, true, false] with
  | true => match okSt 54 L22_0_s L22_0_b σ with
    | true => g (intOf (Tr.val .undef (Tr.lft (Tr.lft σ.slots)))) (intOf (Tr.val .undef (Tr.lft (Tr.rgt σ.slots)))) (listOf (.int .u8) (nth (Tr.val [] (Tr.rgt (Tr.lft (Tr.rgt (Tr.rgt (Tr.rgt σ.boxes)))))) 0)) (intOf (nth (Tr.val [] (Tr.rgt (Tr.lft (Tr.rgt (Tr.rgt (Tr.rgt σ.boxes)))))) 1)) (fun v => K (.exit 0) ⟨54, Tr.of (nthD .undef [.ref 54 0, .undef, .undef, .int .u64 v.1, .int .i64 v.2.1]) 6, Tr.of (nthD [] [[], [], [], [], [], [], [], [], [], [], [], [], [], [], [], [], [], [], [], [], [], [], [], [], [], [], [], [], [], [], [], [], [], [], [], [], [], [], [], [], [], [], [], [], [], [], [], [], [], [], [], [], [], [], [.list (.int .u8) v.2.2.1 .no, .int .i64 v.2.2.2]]) 6⟩)
    | false => lf p σ K
  | false => lf p σ K
theorem L22_0_d (k : Nat) (κ : Res → Option Res) (h : ∀ (p0 : Int) (p1 : Int) (p2 : (List Int)) (p3 : Int) (K : Cont), (ev Try.prog cfg k).loop 22 1 κ [true, true, false, true, false] ⟨54, Tr.of (nthD .undef [.ref 54 0, .undef, .undef, .int .u64 p0, .int .i64 p1]) 6, Tr.of (nthD [] [[], [], [], [], [], [], [], [], [], [], [], [], [], [], [], [], [], [], [], [], [], [], [], [], [], [], [], [], [], [], [], [], [], [], [], [], [], [], [], [], [], [], [], [], [], [], [], [], [], [], [], [], [], [], [.list (.int .u8) p2 .no, .int .i64 p3]]) 6⟩ K = L22_0 k (fun x => κ ((.int .u64 x.1, [[.list (.int .u8) x.2.1 .no, .int .i64 x.2.2]]) : Res)) p0 p1 p2 p3 (fun v => K (.exit 0) ⟨54, Tr.of (nthD .undef [.ref 54 0, .undef, .undef, .int .u64 v.1, .int .i64 v.2.1]) 6, Tr.of (nthD [] [[], [], [], [], [], [], [], [], [], [], [], [], [], [], [], [], [], [], [], [], [], [], [], [], [], [], [], [], [], [], [], [], [], [], [], [], [], [], [], [], [], [], [], [], [], [], [], [], [], [], [], [], [], [], [.list (.int .u8) v.2.2.1 .no, .int .i64 v.2.2.2]]) 6⟩)) : L22_0_m (L22_0 k (fun x => κ ((.int .u64 x.1, [[.list (.int .u8) x.2.1 .no, .int .i64 x.2.2]]) : Res))) ((ev Try.prog cfg k).loop 22 1 κ) = (ev Try.prog cfg k).loop 22 1 κ := by
  funext p σ K
  unfold L22_0_m
  split
  · rename_i hp
    split
    · rename_i hs
      have e : mkSt 54 L22_0_s L22_0_b σ = ⟨54, Tr.of (nthD .undef [.ref 54 0, .undef, .undef, .int .u64 (intOf (Tr.val .undef (Tr.lft (Tr.lft σ.slots)))), .int .i64 (intOf (Tr.val .undef (Tr.lft (Tr.rgt σ.slots))))]) 6, Tr.of (nthD [] [[], [], [], [], [], [], [], [], [], [], [], [], [], [], [], [], [], [], [], [], [], [], [], [], [], [], [], [], [], [], [], [], [], [], [], [], [], [], [], [], [], [], [], [], [], [], [], [], [], [], [], [], [], [], [.list (.int .u8) (listOf (.int .u8) (nth (Tr.val [] (Tr.rgt (Tr.lft (Tr.rgt (Tr.rgt (Tr.rgt σ.boxes)))))) 0)) .no, .int .i64 (intOf (nth (Tr.val [] (Tr.rgt (Tr.lft (Tr.rgt (Tr.rgt (Tr.rgt σ.boxes)))))) 1))]]) 6⟩ := by kernel_rfl
      rw [pathEq_eq hp]
      exact (h (intOf (Tr.val .undef (Tr.lft (Tr.lft σ.slots)))) (intOf (Tr.val .undef (Tr.lft (Tr.rgt σ.slots)))) (listOf (.int .u8) (nth (Tr.val [] (Tr.rgt (Tr.lft (Tr.rgt (Tr.rgt (Tr.rgt σ.boxes)))))) 0)) (intOf (nth (Tr.val [] (Tr.rgt (Tr.lft (Tr.rgt (Tr.rgt (Tr.rgt σ.boxes)))))) 1)) K).symm.trans (congrArg (fun s => (ev Try.prog cfg k).loop 22 1 κ [true, true, false, true, false] s K) (e.symm.trans (okSt_eq hs).symm))
    · rfl
  · rfl
theorem L22_0_k (gF29v2 : tF29v2) (gL22_0 : tL22_0) (cf : CallF) (lf : LoopF) (κ : Res → Option Res) (p0 : Int) (p1 : Int) (p2 : (List Int)) (p3 : Int) (K : Cont) : evLp Try.prog cfg (F29v2_m gF29v2 cf) (L22_0_m gL22_0 lf) 22 1 κ [true, true, false, true, false] ⟨54, Tr.of (nthD .undef [.ref 54 0, .undef, .undef, .int .u64 p0, .int .i64 p1]) 6, Tr.of (nthD [] [[], [], [], [], [], [], [], [], [], [], [], [], [], [], [], [], [], [], [], [], [], [], [], [], [], [], [], [], [], [], [], [], [], [], [], [], [], [], [], [], [], [], [], [], [], [], [], [], [], [], [], [], [], [], [.list (.int .u8) p2 .no, .int .i64 p3]]) 6⟩ K = L22_0_B gF29v2 gL22_0 (fun x => κ ((.int .u64 x.1, [[.list (.int .u8) x.2.1 .no, .int .i64 x.2.2]]) : Res)) p0 p1 p2 p3 (fun v => K (.exit 0) ⟨54, Tr.of (nthD .undef [.ref 54 0, .undef, .undef, .int .u64 v.1, .int .i64 v.2.1]) 6, Tr.of (nthD [] [[], [], [], [], [], [], [], [], [], [], [], [], [], [], [], [], [], [], [], [], [], [], [], [], [], [], [], [], [], [], [], [], [], [], [], [], [], [], [], [], [], [], [], [], [], [], [], [], [], [], [], [], [], [], [.list (.int .u8) v.2.2.1 .no, .int .i64 v.2.2.2]]) 6⟩) := by
  kernel_rfl
theorem L22_0_ev : ∀ (k : Nat) (κ : Res → Option Res) (p0 : Int) (p1 : Int) (p2 : (List Int)) (p3 : Int) (K : Cont), (ev Try.prog cfg k).loop 22 1 κ [true, true, false, true, false] ⟨54, Tr.of (nthD .undef [.ref 54 0, .undef, .undef, .int .u64 p0, .int .i64 p1]) 6, Tr.of (nthD [] [[], [], [], [], [], [], [], [], [], [], [], [], [], [], [], [], [], [], [], [], [], [], [], [], [], [], [], [], [], [], [], [], [], [], [], [], [], [], [], [], [], [], [], [], [], [], [], [], [], [], [], [], [], [], [.list (.int .u8) p2 .no, .int .i64 p3]]) 6⟩ K = L22_0 k (fun x => κ ((.int .u64 x.1, [[.list (.int .u8) x.2.1 .no, .int .i64 x.2.2]]) : Res)) p0 p1 p2 p3 (fun v => K (.exit 0) ⟨54, Tr.of (nthD .undef [.ref 54 0, .undef, .undef, .int .u64 v.1, .int .i64 v.2.1]) 6, Tr.of (nthD [] [[], [], [], [], [], [], [], [], [], [], [], [], [], [], [], [], [], [], [], [], [], [], [], [], [], [], [], [], [], [], [], [], [], [], [], [], [], [], [], [], [], [], [], [], [], [], [], [], [], [], [], [], [], [], [.list (.int .u8) v.2.2.1 .no, .int .i64 v.2.2.2]]) 6⟩) := by
  intro k κ
  induction k with
  | zero => intro p0 p1 p2 p3 K; rfl
  | succ k ih =>
    intro p0 p1 p2 p3 K
    rw [ev_loop, ← F29v2_d k (F29v2_ev k), ← L22_0_d k κ ih]
    exact L22_0_k _ _ _ _ κ p0 p1 p2 p3 K
def F22_B (gF29 : tF29) (gF29v1 : tF29v1) (gF29v2 : tF29v2) (gF81 : tF81) (gL22_0 : tL22_0) (b0_0 : (List Int)) (b0_1 : Int) (κ : Int × (List Int) × Int → Option Res) : Option Res :=
  gL22_0 (0 : Int) (0 : Int) b0_0 b0_1 fun v2 =>
  chk1 (gF81 (2 : Int) v2.2.2.1 v2.2.2.2 fun x3 =>
   chk1 (κ ((0 : Int), (x3.1, x3.2))))
/-- (*lamplighter/codec.Reader).Uint -/
def F22 : Nat → (List Int) → Int → (Int × (List Int) × Int → Option Res) → Option Res
  | 0, _, _, _ => none
  | k + 1, b0_0, b0_1, κ => F22_B (F29 k) (F29v1 k) (F29v2 k) (F81 k) (L22_0 k κ) b0_0 b0_1 κ
def F22_s : List SC := [.one (.ref 0 0)]
def F22_b : List (List SC) := [[.one (.list (.int .u8) (.own false false)), .one (.int .i64)]]
def F22_m (g : (List Int) → Int → (Int × (List Int) × Int → Option Res) → Option Res) (cf : CallF) : CallF := fun f args lent κ => match Nat.beq f 22 with
  | true => match okC F22_s args && okB F22_b lent with
    | true => g (listOf (.int .u8) (nth (nthB lent 0) 0)) (intOf (nth (nthB lent 0) 1)) (fun x => κ ((.int .u64 x.1, [[.list (.int .u8) x.2.1 .no, .int .i64 x.2.2]]) : Res))
    | false => cf f args lent κ
  | false => cf f args lent κ
theorem F22_d (k : Nat) (h : ∀ (b0_0 : (List Int)) (b0_1 : Int) (κ : Res → Option Res), (ev Try.prog cfg k).call 22 [.ref 0 0] [[.list (.int .u8) b0_0 (.own false false), .int .i64 b0_1]] κ = F22 k b0_0 b0_1 (fun x => κ ((.int .u64 x.1, [[.list (.int .u8) x.2.1 .no, .int .i64 x.2.2]]) : Res))) : F22_m (F22 k) (ev Try.prog cfg k).call = (ev Try.prog cfg k).call := by
  funext f args lent κ
  unfold F22_m
  split
  · rename_i hp
    split
    · rename_i hs
      rw [Bool.and_eq_true] at hs
      have e : mkC F22_s 0 args = [.ref 0 0] := by kernel_rfl
      have e' : mkB F22_b 0 lent = [[.list (.int .u8) (listOf (.int .u8) (nth (nthB lent 0) 0)) (.own false false), .int .i64 (intOf (nth (nthB lent 0) 1))]] := by kernel_rfl
      obtain rfl := Nat.eq_of_beq_eq_true hp
      exact (h (listOf (.int .u8) (nth (nthB lent 0) 0)) (intOf (nth (nthB lent 0) 1)) κ).symm.trans (cong2 (fun a l => (ev Try.prog cfg k).call 22 a l κ) (e.symm.trans (okC_eq hs.1).symm) (e'.symm.trans (okB_eq hs.2).symm))
    · rfl
  · rfl
theorem F22_k (gF29 : tF29) (gF29v1 : tF29v1) (gF29v2 : tF29v2) (gF81 : tF81) (gL22_0 : tL22_0) (cf : CallF) (lf : LoopF) (b0_0 : (List Int)) (b0_1 : Int) (κ : Res → Option Res) : evFn Try.prog cfg (F29_m gF29 (F29v1_m gF29v1 (F29v2_m gF29v2 (F81_m gF81 cf)))) (L22_0_m gL22_0 lf) 22 [.ref 0 0] [[.list (.int .u8) b0_0 (.own false false), .int .i64 b0_1]] κ = F22_B gF29 gF29v1 gF29v2 gF81 gL22_0 b0_0 b0_1 (fun x => κ ((.int .u64 x.1, [[.list (.int .u8) x.2.1 .no, .int .i64 x.2.2]]) : Res)) := by
  kernel_rfl
theorem F22_ev : ∀ (k : Nat) (b0_0 : (List Int)) (b0_1 : Int) (κ : Res → Option Res), (ev Try.prog cfg k).call 22 [.ref 0 0] [[.list (.int .u8) b0_0 (.own false false), .int .i64 b0_1]] κ = F22 k b0_0 b0_1 (fun x => κ ((.int .u64 x.1, [[.list (.int .u8) x.2.1 .no, .int .i64 x.2.2]]) : Res)) := by
  intro k
  induction k with
  | zero => intros; rfl
  | succ k ih =>
    intro b0_0 b0_1 κ
    refine (ev_call' Try.prog cfg k 22 1 _ _ κ (by rfl)).trans ?_
    rw [← F29_d k (F29_ev k), ← F29v1_d k (F29v1_ev k), ← F29v2_d k (F29v2_ev k), ← F81_d k (F81_ev k), ← L22_0_d k κ (L22_0_ev k κ)]
    exact F22_k _ _ _ _ _ _ _ b0_0 b0_1 κ
def F82_B (gF22 : tF22) (gF29v2 : tF29v2) (gF81 : tF81) (a1 : Int) (b0_0 : (List Int)) (b0_1 : Int) (κ : Int × (List Int) × Int → Option Res) : Option Res :=
  chk1 (gF22 b0_0 b0_1 fun x1 =>
   chk2 (gF29v2 x1.2.1 x1.2.2 fun x2 =>
    chk1 (if (!(decide ((imax a1 (1 : Int)) = (0 : Int)))) = true then
      (chk2 (if decide (x1.1 > (IntKind.wrap .u64 ((IntKind.wrap .i64 (Int.tdiv x2.1 (imax a1 (1 : Int))))))) = true then
        (chk1 (gF81 (2 : Int) x2.2.1 x2.2.2 fun x3 =>
         chk1 (κ ((0 : Int), (x3.1, x3.2)))))
       else
        (chk1 (κ ((IntKind.wrap .i64 (x1.1)), (x2.2.1, x2.2.2))))))
     else
      (none))))
/-- (*lamplighter/codec.Reader).Count -/
def F82 : Nat → Int → (List Int) → Int → (Int × (List Int) × Int → Option Res) → Option Res
  | 0, _, _, _, _ => none
  | k + 1, a1, b0_0, b0_1, κ => F82_B (F22 k) (F29v2 k) (F81 k) a1 b0_0 b0_1 κ
def F82_s : List SC := [.one (.ref 0 0), .one (.int .i64)]
def F82_b : List (List SC) := [[.one (.list (.int .u8) (.own false false)), .one (.int .i64)]]
def F82_m (g : Int → (List Int) → Int → (Int × (List Int) × Int → Option Res) → Option Res) (cf : CallF) : CallF := fun f args lent κ => match Nat.beq f 82 with
  | true => match okC F82_s args && okB F82_b lent with
    | true => g (intOf (nth args 1)) (listOf (.int .u8) (nth (nthB lent 0) 0)) (intOf (nth (nthB lent 0) 1)) (fun x => κ ((.int .i64 x.1, [[.list (.int .u8) x.2.1 .no, .int .i64 x.2.2]]) : Res))
    | false => cf f args lent κ
  | false => cf f args lent κ
theorem F82_d (k : Nat) (h : ∀ (a1 : Int) (b0_0 : (List Int)) (b0_1 : Int) (κ : Res → Option Res), (ev Try.prog cfg k).call 82 [.ref 0 0, .int .i64 a1] [[.list (.int .u8) b0_0 (.own false false), .int .i64 b0_1]] κ = F82 k a1 b0_0 b0_1 (fun x => κ ((.int .i64 x.1, [[.list (.int .u8) x.2.1 .no, .int .i64 x.2.2]]) : Res))) : F82_m (F82 k) (ev Try.prog cfg k).call = (ev Try.prog cfg k).call := by
  funext f args lent κ
  unfold F82_m
  split
  · rename_i hp
    split
    · rename_i hs
      rw [Bool.and_eq_true] at hs
      have e : mkC F82_s 0 args = [.ref 0 0, .int .i64 (intOf (nth args 1))] := by kernel_rfl
      have e' : mkB F82_b 0 lent = [[.list (.int .u8) (listOf (.int .u8) (nth (nthB lent 0) 0)) (.own false false), .int .i64 (intOf (nth (nthB lent 0) 1))]] := by kernel_rfl
      obtain rfl := Nat.eq_of_beq_eq_true hp
      exact (h (intOf (nth args 1)) (listOf (.int .u8) (nth (nthB lent 0) 0)) (intOf (nth (nthB lent 0) 1)) κ).symm.trans (cong2 (fun a l => (ev Try.prog cfg k).call 82 a l κ) (e.symm.trans (okC_eq hs.1).symm) (e'.symm.trans (okB_eq hs.2).symm))
    · rfl
  · rfl
theorem F82_k (gF22 : tF22) (gF29v2 : tF29v2) (gF81 : tF81) (cf : CallF) (lf : LoopF) (a1 : Int) (b0_0 : (List Int)) (b0_1 : Int) (κ : Res → Option Res) : evFn Try.prog cfg (F22_m gF22 (F29v2_m gF29v2 (F81_m gF81 cf))) lf 82 [.ref 0 0, .int .i64 a1] [[.list (.int .u8) b0_0 (.own false false), .int .i64 b0_1]] κ = F82_B gF22 gF29v2 gF81 a1 b0_0 b0_1 (fun x => κ ((.int .i64 x.1, [[.list (.int .u8) x.2.1 .no, .int .i64 x.2.2]]) : Res)) := by
  kernel_rfl
theorem F82_ev : ∀ (k : Nat) (a1 : Int) (b0_0 : (List Int)) (b0_1 : Int) (κ : Res → Option Res), (ev Try.prog cfg k).call 82 [.ref 0 0, .int .i64 a1] [[.list (.int .u8) b0_0 (.own false false), .int .i64 b0_1]] κ = F82 k a1 b0_0 b0_1 (fun x => κ ((.int .i64 x.1, [[.list (.int .u8) x.2.1 .no, .int .i64 x.2.2]]) : Res)) := by
  intro k
  induction k with
  | zero => intros; rfl
  | succ k ih =>
    intro a1 b0_0 b0_1 κ
    refine (ev_call' Try.prog cfg k 82 1 _ _ κ (by rfl)).trans ?_
    rw [← F22_d k (F22_ev k), ← F29v2_d k (F29v2_ev k), ← F81_d k (F81_ev k)]
    exact F82_k _ _ _ _ _ a1 b0_0 b0_1 κ
def L22v1_0_B (gF29v2 : tF29v2) (gL22v1_0 : tL22v1_0) (κ : Int × (List Int) × Int → Option Res) (p0 : Int) (p1 : Int) (p2 : (List Int)) (p3 : Int) (K : Int × Int × (List Int) × Int → Option Res) : Option Res :=
  chk1 (if decide (p1 < (10 : Int)) = true then
    (chk1 (gF29v2 p2 p3 fun x1 =>
     chk2 (if (x1.1 == (0 : Int)) = true then
       (K (p0, (p1, (x1.2.1, x1.2.2))))
      else
       (if (true && (true && decide ((0 : Int) < (x1.2.1.length : Int)))) = true then
        (if (true && (decide ((1 : Int) ≤ (x1.2.1.length : Int)) && decide ((x1.2.1.length : Int) ≤ (x1.2.1.length : Int)))) = true then
         (chk5 (if decide ((0 : Int) ≤ (IntKind.wrap .i64 ((7 : Int) * p1))) = true then
           (chk2 (if decide ((x1.2.1.getD (0 : Int).toNat (0 : Int)) ≥ (128 : Int)) = true then
             (chk1 (gL22v1_0 (bits .or .u64 p0 (IntKind.wrap .u64 ((IntKind.wrap .u64 ((bits .and .u8 (x1.2.1.getD (0 : Int).toNat (0 : Int)) (127 : Int)))) * 2 ^ min ((IntKind.wrap .i64 ((7 : Int) * p1))).toNat (IntKind.bits .u64)))) (IntKind.wrap .i64 (p1 + (1 : Int))) ((x1.2.1.take (x1.2.1.length : Int).toNat).drop (1 : Int).toNat) x1.2.2 K))
            else
             (chk1 (if decide (p1 > (0 : Int)) = true then
               (chk1 (if ((x1.2.1.getD (0 : Int).toNat (0 : Int)) == (0 : Int)) = true then
                 (chk1 (K ((bits .or .u64 p0 (IntKind.wrap .u64 ((IntKind.wrap .u64 ((bits .and .u8 (x1.2.1.getD (0 : Int).toNat (0 : Int)) (127 : Int)))) * 2 ^ min ((IntKind.wrap .i64 ((7 : Int) * p1))).toNat (IntKind.bits .u64)))), (p1, (((x1.2.1.take (x1.2.1.length : Int).toNat).drop (1 : Int).toNat), x1.2.2)))))
                else
                 (chk1 (if (p1 == (9 : Int)) = true then
                   (chk1 (if decide ((x1.2.1.getD (0 : Int).toNat (0 : Int)) > (1 : Int)) = true then
                     (K ((bits .or .u64 p0 (IntKind.wrap .u64 ((IntKind.wrap .u64 ((bits .and .u8 (x1.2.1.getD (0 : Int).toNat (0 : Int)) (127 : Int)))) * 2 ^ min ((IntKind.wrap .i64 ((7 : Int) * p1))).toNat (IntKind.bits .u64)))), (p1, (((x1.2.1.take (x1.2.1.length : Int).toNat).drop (1 : Int).toNat), x1.2.2))))
                    else
                     (κ ((bits .or .u64 p0 (IntKind.wrap .u64 ((IntKind.wrap .u64 ((bits .and .u8 (x1.2.1.getD (0 : Int).toNat (0 : Int)) (127 : Int)))) * 2 ^ min ((IntKind.wrap .i64 ((7 : Int) * p1))).toNat (IntKind.bits .u64)))), (((x1.2.1.take (x1.2.1.length : Int).toNat).drop (1 : Int).toNat), x1.2.2)))))
                  else
                   (if false = true then
                    (none)
                   else
                    (κ ((bits .or .u64 p0 (IntKind.wrap .u64 ((IntKind.wrap .u64 ((bits .and .u8 (x1.2.1.getD (0 : Int).toNat (0 : Int)) (127 : Int)))) * 2 ^ min ((IntKind.wrap .i64 ((7 : Int) * p1))).toNat (IntKind.bits .u64)))), (((x1.2.1.take (x1.2.1.length : Int).toNat).drop (1 : Int).toNat), x1.2.2))))))))
              else
               (if false = true then
                (none)
               else
                (chk1 (if (p1 == (9 : Int)) = true then
                  (chk1 (if decide ((x1.2.1.getD (0 : Int).toNat (0 : Int)) > (1 : Int)) = true then
                    (K ((bits .or .u64 p0 (IntKind.wrap .u64 ((IntKind.wrap .u64 ((bits .and .u8 (x1.2.1.getD (0 : Int).toNat (0 : Int)) (127 : Int)))) * 2 ^ min ((IntKind.wrap .i64 ((7 : Int) * p1))).toNat (IntKind.bits .u64)))), (p1, (((x1.2.1.take (x1.2.1.length : Int).toNat).drop (1 : Int).toNat), x1.2.2))))
                   else
                    (κ ((bits .or .u64 p0 (IntKind.wrap .u64 ((IntKind.wrap .u64 ((bits .and .u8 (x1.2.1.getD (0 : Int).toNat (0 : Int)) (127 : Int)))) * 2 ^ min ((IntKind.wrap .i64 ((7 : Int) * p1))).toNat (IntKind.bits .u64)))), (((x1.2.1.take (x1.2.1.length : Int).toNat).drop (1 : Int).toNat), x1.2.2)))))
                 else
                  (if false = true then
                   (none)
                  else
                   (κ ((bits .or .u64 p0 (IntKind.wrap .u64 ((IntKind.wrap .u64 ((bits .and .u8 (x1.2.1.getD (0 : Int).toNat (0 : Int)) (127 : Int)))) * 2 ^ min ((IntKind.wrap .i64 ((7 : Int) * p1))).toNat (IntKind.bits .u64)))), (((x1.2.1.take (x1.2.1.length : Int).toNat).drop (1 : Int).toNat), x1.2.2)))))))))))
          else
           (none)))
        else
         (none))
       else
        (none)))))
   else
    (K (p0, (p1, (p2, p3)))))
def L22v1_0 : Nat → (Int × (List Int) × Int → Option Res) → Int → Int → (List Int) → Int → (Int × Int × (List Int) × Int → Option Res) → Option Res
  | 0, _, _, _, _, _, _ => none
  | k + 1, κ, p0, p1, p2, p3, K => L22v1_0_B (F29v2 k) (fun p0 p1 p2 p3 K => L22v1_0 k κ p0 p1 p2 p3 K) κ p0 p1 p2 p3 K
def L22v1_0_s : Tr SC := Tr.of (nthD (.one .undef) [.one (.ref 54 0), .one .undef, .one .undef, .one (.int .u64), .one (.int .i64)]) 6
def L22v1_0_b : Tr (List SC) := Tr.of (nthD [] [[], [], [], [], [], [], [], [], [], [], [], [], [], [], [], [], [], [], [], [], [], [], [], [], [], [], [], [], [], [], [], [], [], [], [], [], [], [], [], [], [], [], [], [], [], [], [], [], [], [], [], [], [], [], [.one (.list (.int .u8) .no), .one (.int .i64)]]) 6
def L22v1_0_m (g : Int → Int → (List Int) → Int → (Int × Int × (List Int) × Int → Option Res) → Option Res) (lf : LoopF) : LoopF := fun p σ K => match pathEq p [true, true, false, true, false] with
  | true => match okSt 54 L22v1_0_s L22v1_0_b σ with
    | true => g (intOf (Tr.val .undef (Tr.lft (Tr.lft σ.slots)))) (intOf (Tr.val .undef (Tr.lft (Tr.rgt σ.slots)))) (listOf (.int .u8) (nth (Tr.val [] (Tr.rgt (Tr.lft (Tr.rgt (Tr.rgt (Tr.rgt σ.boxes)))))) 0)) (intOf (nth (Tr.val [] (Tr.rgt (Tr.lft (Tr.rgt (Tr.rgt (Tr.rgt σ.boxes)))))) 1)) (fun v => K (.exit 0) ⟨54, Tr.of (nthD .undef [.ref 54 0, .undef, .undef, .int .u64 v.1, .int .i64 v.2.1]) 6, Tr.of (nthD [] [[], [], [], [], [], [], [], [], [], [], [], [], [], [], [], [], [], [], [], [], [], [], [], [], [], [], [], [], [], [], [], [], [], [], [], [], [], [], [], [], [], [], [], [], [], [], [], [], [], [], [], [], [], [], [.list (.int .u8) v.2.2.1 .no, .int .i64 v.2.2.2]]) 6⟩)
    | false => lf p σ K
  | false => lf p σ K
theorem L22v1_0_d (k : Nat) (κ : Res → Option Res) (h : ∀ (p0 : Int) (p1 : Int) (p2 : (List Int)) (p3 : Int) (K : Cont), (ev Try.prog cfg k).loop 22 1 κ [true, true, false, true, false] ⟨54, Tr.of (nthD .undef [.ref 54 0, .undef, .undef, .int .u64 p0, .int .i64 p1]) 6, Tr.of (nthD [] [[], [], [], [], [], [], [], [], [], [], [], [], [], [], [], [], [], [], [], [], [], [], [], [], [], [], [], [], [], [], [], [], [], [], [], [], [], [], [], [], [], [], [], [], [], [], [], [], [], [], [], [], [], [], [.list (.int .u8) p2 .no, .int .i64 p3]]) 6⟩ K = L22v1_0 k (fun x => κ ((.int .u64 x.1, [[.list (.int .u8) x.2.1 .no, .int .i64 x.2.2]]) : Res)) p0 p1 p2 p3 (fun v => K (.exit 0) ⟨54, Tr.of (nthD .undef [.ref 54 0, .undef, .undef, .int .u64 v.1, .int .i64 v.2.1]) 6, Tr.of (nthD [] [[], [], [], [], [], [], [], [], [], [], [], [], [], [], [], [], [], [], [], [], [], [], [], [], [], [], [], [], [], [], [], [], [], [], [], [], [], [], [], [], [], [], [], [], [], [], [], [], [], [], [], [], [], [], [.list (.int .u8) v.2.2.1 .no, .int .i64 v.2.2.2]]) 6⟩)) : L22v1_0_m (L22v1_0 k (fun x => κ ((.int .u64 x.1, [[.list (.int .u8) x.2.1 .no, .int .i64 x.2.2]]) : Res))) ((ev Try.prog cfg k).loop 22 1 κ) = (ev Try.prog cfg k).loop 22 1 κ := by
  funext p σ K
  unfold L22v1_0_m
  split
  · rename_i hp
    split
    · rename_i hs
      have e : mkSt 54 L22v1_0_s L22v1_0_b σ = ⟨54, Tr.of (nthD .undef [.ref 54 0, .undef, .undef, .int .u64 (intOf (Tr.val .undef (Tr.lft (Tr.lft σ.slots)))), .int .i64 (intOf (Tr.val .undef (Tr.lft (Tr.rgt σ.slots))))]) 6, Tr.of (nthD [] [[], [], [], [], [], [], [], [], [], [], [], [], [], [], [], [], [], [], [], [], [], [], [], [], [], [], [], [], [], [], [], [], [], [], [], [], [], [], [], [], [], [], [], [], [], [], [], [], [], [], [], [], [], [], [.list (.int .u8) (listOf (.int .u8) (nth (Tr.val [] (Tr.rgt (Tr.lft (Tr.rgt (Tr.rgt (Tr.rgt σ.boxes)))))) 0)) .no, .int .i64 (intOf (nth (Tr.val [] (Tr.rgt (Tr.lft (Tr.rgt (Tr.rgt (Tr.rgt σ.boxes)))))) 1))]]) 6⟩ := by kernel_rfl
      rw [pathEq_eq hp]
      exact (h (intOf (Tr.val .undef (Tr.lft (Tr.lft σ.slots)))) (intOf (Tr.val .undef (Tr.lft (Tr.rgt σ.slots)))) (listOf (.int .u8) (nth (Tr.val [] (Tr.rgt (Tr.lft (Tr.rgt (Tr.rgt (Tr.rgt σ.boxes)))))) 0)) (intOf (nth (Tr.val [] (Tr.rgt (Tr.lft (Tr.rgt (Tr.rgt (Tr.rgt σ.boxes)))))) 1)) K).symm.trans (congrArg (fun s => (ev Try.prog cfg k).loop 22 1 κ [true, true, false, true, false] s K) (e.symm.trans (okSt_eq hs).symm))
    · rfl
  · rfl
theorem L22v1_0_k (gF29v2 : tF29v2) (gL22v1_0 : tL22v1_0) (cf : CallF) (lf : LoopF) (κ : Res → Option Res) (p0 : Int) (p1 : Int) (p2 : (List Int)) (p3 : Int) (K : Cont) : evLp Try.prog cfg (F29v2_m gF29v2 cf) (L22v1_0_m gL22v1_0 lf) 22 1 κ [true, true, false, true, false] ⟨54, Tr.of (nthD .undef [.ref 54 0, .undef, .undef, .int .u64 p0, .int .i64 p1]) 6, Tr.of (nthD [] [[], [], [], [], [], [], [], [], [], [], [], [], [], [], [], [], [], [], [], [], [], [], [], [], [], [], [], [], [], [], [], [], [], [], [], [], [], [], [], [], [], [], [], [], [], [], [], [], [], [], [], [], [], [], [.list (.int .u8) p2 .no, .int .i64 p3]]) 6⟩ K = L22v1_0_B gF29v2 gL22v1_0 (fun x => κ ((.int .u64 x.1, [[.list (.int .u8) x.2.1 .no, .int .i64 x.2.2]]) : Res)) p0 p1 p2 p3 (fun v => K (.exit 0) ⟨54, Tr.of (nthD .undef [.ref 54 0, .undef, .undef, .int .u64 v.1, .int .i64 v.2.1]) 6, Tr.of (nthD [] [[], [], [], [], [], [], [], [], [], [], [], [], [], [], [], [], [], [], [], [], [], [], [], [], [], [], [], [], [], [], [], [], [], [], [], [], [], [], [], [], [], [], [], [], [], [], [], [], [], [], [], [], [], [], [.list (.int .u8) v.2.2.1 .no, .int .i64 v.2.2.2]]) 6⟩) := by
  kernel_rfl
theorem L22v1_0_ev : ∀ (k : Nat) (κ : Res → Option Res) (p0 : Int) (p1 : Int) (p2 : (List Int)) (p3 : Int) (K : Cont), (ev Try.prog cfg k).loop 22 1 κ [true, true, false, true, false] ⟨54, Tr.of (nthD .undef [.ref 54 0, .undef, .undef, .int .u64 p0, .int .i64 p1]) 6, Tr.of (nthD [] [[], [], [], [], [], [], [], [], [], [], [], [], [], [], [], [], [], [], [], [], [], [], [], [], [], [], [], [], [], [], [], [], [], [], [], [], [], [], [], [], [], [], [], [], [], [], [], [], [], [], [], [], [], [], [.list (.int .u8) p2 .no, .int .i64 p3]]) 6⟩ K = L22v1_0 k (fun x => κ ((.int .u64 x.1, [[.list (.int .u8) x.2.1 .no, .int .i64 x.2.2]]) : Res)) p0 p1 p2 p3 (fun v => K (.exit 0) ⟨54, Tr.of (nthD .undef [.ref 54 0, .undef, .undef, .int .u64 v.1, .int .i64 v.2.1]) 6, Tr.of (nthD [] [[], [], [], [], [], [], [], [], [], [], [], [], [], [], [], [], [], [], [], [], [], [], [], [], [], [], [], [], [], [], [], [], [], [], [], [], [], [], [], [], [], [], [], [], [], [], [], [], [], [], [], [], [], [], [.list (.int .u8) v.2.2.1 .no, .int .i64 v.2.2.2]]) 6⟩) := by
  intro k κ
  induction k with
  | zero => intro p0 p1 p2 p3 K; rfl
  | succ k ih =>
    intro p0 p1 p2 p3 K
    rw [ev_loop, ← F29v2_d k (F29v2_ev k), ← L22v1_0_d k κ ih]
    exact L22v1_0_k _ _ _ _ κ p0 p1 p2 p3 K
def F22v1_B (gF29v2 : tF29v2) (gF81 : tF81) (gL22v1_0 : tL22v1_0) (b0_0 : (List Int)) (b0_1 : Int) (κ : Int × (List Int) × Int → Option Res) : Option Res :=
  gL22v1_0 (0 : Int) (0 : Int) b0_0 b0_1 fun v2 =>
  chk1 (gF81 (2 : Int) v2.2.2.1 v2.2.2.2 fun x3 =>
   chk1 (κ ((0 : Int), (x3.1, x3.2))))
/-- (*lamplighter/codec.Reader).Uint -/
def F22v1 : Nat → (List Int) → Int → (Int × (List Int) × Int → Option Res) → Option Res
  | 0, _, _, _ => none
  | k + 1, b0_0, b0_1, κ => F22v1_B (F29v2 k) (F81 k) (L22v1_0 k κ) b0_0 b0_1 κ
def F22v1_s : List SC := [.one (.ref 0 0)]
def F22v1_b : List (List SC) := [[.one (.list (.int .u8) .no), .one (.int .i64)]]
def F22v1_m (g : (List Int) → Int → (Int × (List Int) × Int → Option Res) → Option Res) (cf : CallF) : CallF := fun f args lent κ => match Nat.beq f 22 with
  | true => match okC F22v1_s args && okB F22v1_b lent with
    | true => g (listOf (.int .u8) (nth (nthB lent 0) 0)) (intOf (nth (nthB lent 0) 1)) (fun x => κ ((.int .u64 x.1, [[.list (.int .u8) x.2.1 .no, .int .i64 x.2.2]]) : Res))
    | false => cf f args lent κ
  | false => cf f args lent κ
theorem F22v1_d (k : Nat) (h : ∀ (b0_0 : (List Int)) (b0_1 : Int) (κ : Res → Option Res), (ev Try.prog cfg k).call 22 [.ref 0 0] [[.list (.int .u8) b0_0 .no, .int .i64 b0_1]] κ = F22v1 k b0_0 b0_1 (fun x => κ ((.int .u64 x.1, [[.list (.int .u8) x.2.1 .no, .int .i64 x.2.2]]) : Res))) : F22v1_m (F22v1 k) (ev Try.prog cfg k).call = (ev Try.prog cfg k).call := by
  funext f args lent κ
  unfold F22v1_m
  split
  · rename_i hp
    split
    · rename_i hs
      rw [Bool.and_eq_true] at hs
      have e : mkC F22v1_s 0 args = [.ref 0 0] := by kernel_rfl
      have e' : mkB F22v1_b 0 lent = [[.list (.int .u8) (listOf (.int .u8) (nth (nthB lent 0) 0)) .no, .int .i64 (intOf (nth (nthB lent 0) 1))]] := by kernel_rfl
      obtain rfl := Nat.eq_of_beq_eq_true hp
      exact (h (listOf (.int .u8) (nth (nthB lent 0) 0)) (intOf (nth (nthB lent 0) 1)) κ).symm.trans (cong2 (fun a l => (ev Try.prog cfg k).call 22 a l κ) (e.symm.trans (okC_eq hs.1).symm) (e'.symm.trans (okB_eq hs.2).symm))
    · rfl
  · rfl
theorem F22v1_k (gF29v2 : tF29v2) (gF81 : tF81) (gL22v1_0 : tL22v1_0) (cf : CallF) (lf : LoopF) (b0_0 : (List Int)) (b0_1 : Int) (κ : Res → Option Res) : evFn Try.prog cfg (F29v2_m gF29v2 (F81_m gF81 cf)) (L22v1_0_m gL22v1_0 lf) 22 [.ref 0 0] [[.list (.int .u8) b0_0 .no, .int .i64 b0_1]] κ = F22v1_B gF29v2 gF81 gL22v1_0 b0_0 b0_1 (fun x => κ ((.int .u64 x.1, [[.list (.int .u8) x.2.1 .no, .int .i64 x.2.2]]) : Res)) := by
  kernel_rfl
theorem F22v1_ev : ∀ (k : Nat) (b0_0 : (List Int)) (b0_1 : Int) (κ : Res → Option Res), (ev Try.prog cfg k).call 22 [.ref 0 0] [[.list (.int .u8) b0_0 .no, .int .i64 b0_1]] κ = F22v1 k b0_0 b0_1 (fun x => κ ((.int .u64 x.1, [[.list (.int .u8) x.2.1 .no, .int .i64 x.2.2]]) : Res)) := by
  intro k
  induction k with
  | zero => intros; rfl
  | succ k ih =>
    intro b0_0 b0_1 κ
    refine (ev_call' Try.prog cfg k 22 1 _ _ κ (by rfl)).trans ?_
    rw [← F29v2_d k (F29v2_ev k), ← F81_d k (F81_ev k), ← L22v1_0_d k κ (L22v1_0_ev k κ)]
    exact F22v1_k _ _ _ _ _ b0_0 b0_1 κ
def F82v1_B (gF22v1 : tF22v1) (gF29v2 : tF29v2) (gF81 : tF81) (a1 : Int) (b0_0 : (List Int)) (b0_1 : Int) (κ : Int × (List Int) × Int → Option Res) : Option Res :=
  chk1 (gF22v1 b0_0 b0_1 fun x1 =>
   chk2 (gF29v2 x1.2.1 x1.2.2 fun x2 =>
    chk1 (if (!(decide ((imax a1 (1 : Int)) = (0 : Int)))) = true then
      (chk2 (if decide (x1.1 > (IntKind.wrap .u64 ((IntKind.wrap .i64 (Int.tdiv x2.1 (imax a1 (1 : Int))))))) = true then
        (chk1 (gF81 (2 : Int) x2.2.1 x2.2.2 fun x3 =>
         chk1 (κ ((0 : Int), (x3.1, x3.2)))))
       else
        (chk1 (κ ((IntKind.wrap .i64 (x1.1)), (x2.2.1, x2.2.2))))))
     else
      (none))))
/-- (*lamplighter/codec.Reader).Count -/
def F82v1 : Nat → Int → (List Int) → Int → (Int × (List Int) × Int → Option Res) → Option Res
  | 0, _, _, _, _ => none
  | k + 1, a1, b0_0, b0_1, κ => F82v1_B (F22v1 k) (F29v2 k) (F81 k) a1 b0_0 b0_1 κ
def F82v1_s : List SC := [.one (.ref 0 0), .one (.int .i64)]
def F82v1_b : List (List SC) := [[.one (.list (.int .u8) .no), .one (.int .i64)]]
def F82v1_m (g : Int → (List Int) → Int → (Int × (List Int) × Int → Option Res) → Option Res) (cf : CallF) : CallF := fun f args lent κ => match Nat.beq f 82 with
  | true => match okC F82v1_s args && okB F82v1_b lent with
    | true => g (intOf (nth args 1)) (listOf (.int .u8) (nth (nthB lent 0) 0)) (intOf (nth (nthB lent 0) 1)) (fun x => κ ((.int .i64 x.1, [[.list (.int .u8) x.2.1 .no, .int .i64 x.2.2]]) : Res))
    | false => cf f args lent κ
  | false => cf f args lent κ
theorem F82v1_d (k : Nat) (h : ∀ (a1 : Int) (b0_0 : (List Int)) (b0_1 : Int) (κ : Res → Option Res), (ev Try.prog cfg k).call 82 [.ref 0 0, .int .i64 a1] [[.list (.int .u8) b0_0 .no, .int .i64 b0_1]] κ = F82v1 k a1 b0_0 b0_1 (fun x => κ ((.int .i64 x.1, [[.list (.int .u8) x.2.1 .no, .int .i64 x.2.2]]) : Res))) : F82v1_m (F82v1 k) (ev Try.prog cfg k).call = (ev Try.prog cfg k).call := by
  funext f args lent κ
  unfold F82v1_m
  split
  · rename_i hp
    split
    · rename_i hs
      rw [Bool.and_eq_true] at hs
      have e : mkC F82v1_s 0 args = [.ref 0 0, .int .i64 (intOf (nth args 1))] := by kernel_rfl
      have e' : mkB F82v1_b 0 lent = [[.list (.int .u8) (listOf (.int .u8) (nth (nthB lent 0) 0)) .no, .int .i64 (intOf (nth (nthB lent 0) 1))]] := by kernel_rfl
      obtain rfl := Nat.eq_of_beq_eq_true hp
      exact (h (intOf (nth args 1)) (listOf (.int .u8) (nth (nthB lent 0) 0)) (intOf (nth (nthB lent 0) 1)) κ).symm.trans (cong2 (fun a l => (ev Try.prog cfg k).call 82 a l κ) (e.symm.trans (okC_eq hs.1).symm) (e'.symm.trans (okB_eq hs.2).symm))
    · rfl
  · rfl
theorem F82v1_k (gF22v1 : tF22v1) (gF29v2 : tF29v2) (gF81 : tF81) (cf : CallF) (lf : LoopF) (a1 : Int) (b0_0 : (List Int)) (b0_1 : Int) (κ : Res → Option Res) : evFn Try.prog cfg (F22v1_m gF22v1 (F29v2_m gF29v2 (F81_m gF81 cf))) lf 82 [.ref 0 0, .int .i64 a1] [[.list (.int .u8) b0_0 .no, .int .i64 b0_1]] κ = F82v1_B gF22v1 gF29v2 gF81 a1 b0_0 b0_1 (fun x => κ ((.int .i64 x.1, [[.list (.int .u8) x.2.1 .no, .int .i64 x.2.2]]) : Res)) := by
  kernel_rfl
theorem F82v1_ev : ∀ (k : Nat) (a1 : Int) (b0_0 : (List Int)) (b0_1 : Int) (κ : Res → Option Res), (ev Try.prog cfg k).call 82 [.ref 0 0, .int .i64 a1] [[.list (.int .u8) b0_0 .no, .int .i64 b0_1]] κ = F82v1 k a1 b0_0 b0_1 (fun x => κ ((.int .i64 x.1, [[.list (.int .u8) x.2.1 .no, .int .i64 x.2.2]]) : Res)) := by
  intro k
  induction k with
  | zero => intros; rfl
  | succ k ih =>
    intro a1 b0_0 b0_1 κ
    refine (ev_call' Try.prog cfg k 82 1 _ _ κ (by rfl)).trans ?_
    rw [← F22v1_d k (F22v1_ev k), ← F29v2_d k (F29v2_ev k), ← F81_d k (F81_ev k)]
    exact F82v1_k _ _ _ _ _ a1 b0_0 b0_1 κ
def F26_B  (b0_0 : (List Int)) (b0_1 : Int) (κ : Int × (List Int) × Int → Option Res) : Option Res :=
  chk1 (if false = true then
    (none)
   else
    (κ (b0_1, (b0_0, b0_1))))
/-- (*lamplighter/codec.Reader).Err -/
def F26 : Nat → (List Int) → Int → (Int × (List Int) × Int → Option Res) → Option Res
  | 0, _, _, _ => none
  | k + 1, b0_0, b0_1, κ => F26_B  b0_0 b0_1 κ
def F26_s : List SC := [.one (.ref 0 0)]
def F26_b : List (List SC) := [[.one (.list (.int .u8) .no), .one (.int .i64)]]
def F26_m (g : (List Int) → Int → (Int × (List Int) × Int → Option Res) → Option Res) (cf : CallF) : CallF := fun f args lent κ => match Nat.beq f 26 with
  | true => match okC F26_s args && okB F26_b lent with
    | true => g (listOf (.int .u8) (nth (nthB lent 0) 0)) (intOf (nth (nthB lent 0) 1)) (fun x => κ ((.int .i64 x.1, [[.list (.int .u8) x.2.1 .no, .int .i64 x.2.2]]) : Res))
    | false => cf f args lent κ
  | false => cf f args lent κ
theorem F26_d (k : Nat) (h : ∀ (b0_0 : (List Int)) (b0_1 : Int) (κ : Res → Option Res), (ev Try.prog cfg k).call 26 [.ref 0 0] [[.list (.int .u8) b0_0 .no, .int .i64 b0_1]] κ = F26 k b0_0 b0_1 (fun x => κ ((.int .i64 x.1, [[.list (.int .u8) x.2.1 .no, .int .i64 x.2.2]]) : Res))) : F26_m (F26 k) (ev Try.prog cfg k).call = (ev Try.prog cfg k).call := by
  funext f args lent κ
  unfold F26_m
  split
  · rename_i hp
    split
    · rename_i hs
      rw [Bool.and_eq_true] at hs
      have e : mkC F26_s 0 args = [.ref 0 0] := by kernel_rfl
      have e' : mkB F26_b 0 lent = [[.list (.int .u8) (listOf (.int .u8) (nth (nthB lent 0) 0)) .no, .int .i64 (intOf (nth (nthB lent 0) 1))]] := by kernel_rfl
      obtain rfl := Nat.eq_of_beq_eq_true hp
      exact (h (listOf (.int .u8) (nth (nthB lent 0) 0)) (intOf (nth (nthB lent 0) 1)) κ).symm.trans (cong2 (fun a l => (ev Try.prog cfg k).call 26 a l κ) (e.symm.trans (okC_eq hs.1).symm) (e'.symm.trans (okB_eq hs.2).symm))
    · rfl
  · rfl
theorem F26_k  (cf : CallF) (lf : LoopF) (b0_0 : (List Int)) (b0_1 : Int) (κ : Res → Option Res) : evFn Try.prog cfg cf lf 26 [.ref 0 0] [[.list (.int .u8) b0_0 .no, .int .i64 b0_1]] κ = F26_B  b0_0 b0_1 (fun x => κ ((.int .i64 x.1, [[.list (.int .u8) x.2.1 .no, .int .i64 x.2.2]]) : Res)) := by
  kernel_rfl
theorem F26_ev : ∀ (k : Nat) (b0_0 : (List Int)) (b0_1 : Int) (κ : Res → Option Res), (ev Try.prog cfg k).call 26 [.ref 0 0] [[.list (.int .u8) b0_0 .no, .int .i64 b0_1]] κ = F26 k b0_0 b0_1 (fun x => κ ((.int .i64 x.1, [[.list (.int .u8) x.2.1 .no, .int .i64 x.2.2]]) : Res)) := by
  intro k
  induction k with
  | zero => intros; rfl
  | succ k ih =>
    intro b0_0 b0_1 κ
    refine (ev_call' Try.prog cfg k 26 1 _ _ κ (by rfl)).trans ?_
    skip
    exact F26_k  _ _ b0_0 b0_1 κ
def F24_B (gF82v1 : tF82v1) (gF26 : tF26) (b0_0 : (List Int)) (b0_1 : Int) (κ : ByteArray × (List Int) × Int → Option Res) : Option Res :=
  chk1 (gF82v1 (1 : Int) b0_0 b0_1 fun x1 =>
   chk2 (gF26 x1.2.1 x1.2.2 fun x2 =>
    chk2 (if (x2.1 != (0 : Int)) = true then
      (κ ((⟨#[]⟩ : ByteArray), (x2.2.1, x2.2.2)))
     else
      (if (true && (decide ((0 : Int) ≤ x1.1) && decide (x1.1 ≤ (x2.2.1.length : Int)))) = true then chk1 (if ((true && decide ((0 : Int) ≤ x1.1)) && (decide (x1.1 ≤ (x2.2.1.length : Int)) && decide ((x2.2.1.length : Int) ≤ (x2.2.1.length : Int)))) = true then chk2 (κ ((strOf ((x2.2.1.take x1.1.toNat).drop (0 : Int).toNat)), (((x2.2.1.take (x2.2.1.length : Int).toNat).drop x1.1.toNat), x2.2.2))) else none) else none))))
/-- (*lamplighter/codec.Reader).Text -/
def F24 : Nat → (List Int) → Int → (ByteArray × (List Int) × Int → Option Res) → Option Res
  | 0, _, _, _ => none
  | k + 1, b0_0, b0_1, κ => F24_B (F82v1 k) (F26 k) b0_0 b0_1 κ
def F24_s : List SC := [.one (.ref 0 0)]
def F24_b : List (List SC) := [[.one (.list (.int .u8) .no), .one (.int .i64)]]
def F24_m (g : (List Int) → Int → (ByteArray × (List Int) × Int → Option Res) → Option Res) (cf : CallF) : CallF := fun f args lent κ => match Nat.beq f 24 with
  | true => match okC F24_s args && okB F24_b lent with
    | true => g (listOf (.int .u8) (nth (nthB lent 0) 0)) (intOf (nth (nthB lent 0) 1)) (fun x => κ ((.str x.1, [[.list (.int .u8) x.2.1 .no, .int .i64 x.2.2]]) : Res))
    | false => cf f args lent κ
  | false => cf f args lent κ
theorem F24_d (k : Nat) (h : ∀ (b0_0 : (List Int)) (b0_1 : Int) (κ : Res → Option Res), (ev Try.prog cfg k).call 24 [.ref 0 0] [[.list (.int .u8) b0_0 .no, .int .i64 b0_1]] κ = F24 k b0_0 b0_1 (fun x => κ ((.str x.1, [[.list (.int .u8) x.2.1 .no, .int .i64 x.2.2]]) : Res))) : F24_m (F24 k) (ev Try.prog cfg k).call = (ev Try.prog cfg k).call := by
  funext f args lent κ
  unfold F24_m
  split
  · rename_i hp
    split
    · rename_i hs
      rw [Bool.and_eq_true] at hs
      have e : mkC F24_s 0 args = [.ref 0 0] := by kernel_rfl
      have e' : mkB F24_b 0 lent = [[.list (.int .u8) (listOf (.int .u8) (nth (nthB lent 0) 0)) .no, .int .i64 (intOf (nth (nthB lent 0) 1))]] := by kernel_rfl
      obtain rfl := Nat.eq_of_beq_eq_true hp
      exact (h (listOf (.int .u8) (nth (nthB lent 0) 0)) (intOf (nth (nthB lent 0) 1)) κ).symm.trans (cong2 (fun a l => (ev Try.prog cfg k).call 24 a l κ) (e.symm.trans (okC_eq hs.1).symm) (e'.symm.trans (okB_eq hs.2).symm))
    · rfl
  · rfl
theorem F24_k (gF82v1 : tF82v1) (gF26 : tF26) (cf : CallF) (lf : LoopF) (b0_0 : (List Int)) (b0_1 : Int) (κ : Res → Option Res) : evFn Try.prog cfg (F82v1_m gF82v1 (F26_m gF26 cf)) lf 24 [.ref 0 0] [[.list (.int .u8) b0_0 .no, .int .i64 b0_1]] κ = F24_B gF82v1 gF26 b0_0 b0_1 (fun x => κ ((.str x.1, [[.list (.int .u8) x.2.1 .no, .int .i64 x.2.2]]) : Res)) := by
  kernel_rfl
theorem F24_ev : ∀ (k : Nat) (b0_0 : (List Int)) (b0_1 : Int) (κ : Res → Option Res), (ev Try.prog cfg k).call 24 [.ref 0 0] [[.list (.int .u8) b0_0 .no, .int .i64 b0_1]] κ = F24 k b0_0 b0_1 (fun x => κ ((.str x.1, [[.list (.int .u8) x.2.1 .no, .int .i64 x.2.2]]) : Res)) := by
  intro k
  induction k with
  | zero => intros; rfl
  | succ k ih =>
    intro b0_0 b0_1 κ
    refine (ev_call' Try.prog cfg k 24 1 _ _ κ (by rfl)).trans ?_
    rw [← F82v1_d k (F82v1_ev k), ← F26_d k (F26_ev k)]
    exact F24_k _ _ _ _ b0_0 b0_1 κ
def F23_B (gF22v1 : tF22v1) (b0_0 : (List Int)) (b0_1 : Int) (κ : Int × (List Int) × Int → Option Res) : Option Res :=
  chk1 (gF22v1 b0_0 b0_1 fun x1 =>
   chk6 (κ ((bits .xor .i64 (IntKind.wrap .i64 ((Int.fdiv x1.1 (2 ^ min ((1 : Int)).toNat (IntKind.bits .u64))))) (IntKind.wrap .i64 (0 - (IntKind.wrap .i64 ((bits .and .u64 x1.1 (1 : Int))))))), (x1.2.1, x1.2.2))))
/-- (*lamplighter/codec.Reader).Int -/
def F23 : Nat → (List Int) → Int → (Int × (List Int) × Int → Option Res) → Option Res
  | 0, _, _, _ => none
  | k + 1, b0_0, b0_1, κ => F23_B (F22v1 k) b0_0 b0_1 κ
def F23_s : List SC := [.one (.ref 0 0)]
def F23_b : List (List SC) := [[.one (.list (.int .u8) .no), .one (.int .i64)]]
def F23_m (g : (List Int) → Int → (Int × (List Int) × Int → Option Res) → Option Res) (cf : CallF) : CallF := fun f args lent κ => match Nat.beq f 23 with
  | true => match okC F23_s args && okB F23_b lent with
    | true => g (listOf (.int .u8) (nth (nthB lent 0) 0)) (intOf (nth (nthB lent 0) 1)) (fun x => κ ((.int .i64 x.1, [[.list (.int .u8) x.2.1 .no, .int .i64 x.2.2]]) : Res))
    | false => cf f args lent κ
  | false => cf f args lent κ
theorem F23_d (k : Nat) (h : ∀ (b0_0 : (List Int)) (b0_1 : Int) (κ : Res → Option Res), (ev Try.prog cfg k).call 23 [.ref 0 0] [[.list (.int .u8) b0_0 .no, .int .i64 b0_1]] κ = F23 k b0_0 b0_1 (fun x => κ ((.int .i64 x.1, [[.list (.int .u8) x.2.1 .no, .int .i64 x.2.2]]) : Res))) : F23_m (F23 k) (ev Try.prog cfg k).call = (ev Try.prog cfg k).call := by
  funext f args lent κ
  unfold F23_m
  split
  · rename_i hp
    split
    · rename_i hs
      rw [Bool.and_eq_true] at hs
      have e : mkC F23_s 0 args = [.ref 0 0] := by kernel_rfl
      have e' : mkB F23_b 0 lent = [[.list (.int .u8) (listOf (.int .u8) (nth (nthB lent 0) 0)) .no, .int .i64 (intOf (nth (nthB lent 0) 1))]] := by kernel_rfl
      obtain rfl := Nat.eq_of_beq_eq_true hp
      exact (h (listOf (.int .u8) (nth (nthB lent 0) 0)) (intOf (nth (nthB lent 0) 1)) κ).symm.trans (cong2 (fun a l => (ev Try.prog cfg k).call 23 a l κ) (e.symm.trans (okC_eq hs.1).symm) (e'.symm.trans (okB_eq hs.2).symm))
    · rfl
  · rfl
theorem F23_k (gF22v1 : tF22v1) (cf : CallF) (lf : LoopF) (b0_0 : (List Int)) (b0_1 : Int) (κ : Res → Option Res) : evFn Try.prog cfg (F22v1_m gF22v1 cf) lf 23 [.ref 0 0] [[.list (.int .u8) b0_0 .no, .int .i64 b0_1]] κ = F23_B gF22v1 b0_0 b0_1 (fun x => κ ((.int .i64 x.1, [[.list (.int .u8) x.2.1 .no, .int .i64 x.2.2]]) : Res)) := by
  kernel_rfl
theorem F23_ev : ∀ (k : Nat) (b0_0 : (List Int)) (b0_1 : Int) (κ : Res → Option Res), (ev Try.prog cfg k).call 23 [.ref 0 0] [[.list (.int .u8) b0_0 .no, .int .i64 b0_1]] κ = F23 k b0_0 b0_1 (fun x => κ ((.int .i64 x.1, [[.list (.int .u8) x.2.1 .no, .int .i64 x.2.2]]) : Res)) := by
  intro k
  induction k with
  | zero => intros; rfl
  | succ k ih =>
    intro b0_0 b0_1 κ
    refine (ev_call' Try.prog cfg k 23 1 _ _ κ (by rfl)).trans ?_
    rw [← F22v1_d k (F22v1_ev k)]
    exact F23_k _ _ _ b0_0 b0_1 κ
def F182_B  (a0 : Int) (κ : T2 → Option Res) : Option Res :=
  chk6 (κ ((1 : Int), (a0, ((⟨#[]⟩ : ByteArray), false))))
/-- lamplighter/value.Num -/
def F182 : Nat → Int → (T2 → Option Res) → Option Res
  | 0, _, _ => none
  | k + 1, a0, κ => F182_B  a0 κ
def F182_s : List SC := [.one (.int .i64)]
def F182_b : List (List SC) := []
def F182_m (g : Int → (T2 → Option Res) → Option Res) (cf : CallF) : CallF := fun f args lent κ => match Nat.beq f 182 with
  | true => match okC F182_s args && okB F182_b lent with
    | true => g (intOf (nth args 0)) (fun x => κ ((.agg [.int .i64 x.1, .int .i64 x.2.1, .str x.2.2.1, .bool x.2.2.2], []) : Res))
    | false => cf f args lent κ
  | false => cf f args lent κ
theorem F182_d (k : Nat) (h : ∀ (a0 : Int) (κ : Res → Option Res), (ev Try.prog cfg k).call 182 [.int .i64 a0] [] κ = F182 k a0 (fun x => κ ((.agg [.int .i64 x.1, .int .i64 x.2.1, .str x.2.2.1, .bool x.2.2.2], []) : Res))) : F182_m (F182 k) (ev Try.prog cfg k).call = (ev Try.prog cfg k).call := by
  funext f args lent κ
  unfold F182_m
  split
  · rename_i hp
    split
    · rename_i hs
      rw [Bool.and_eq_true] at hs
      have e : mkC F182_s 0 args = [.int .i64 (intOf (nth args 0))] := by kernel_rfl
      have e' : mkB F182_b 0 lent = [] := by kernel_rfl
      obtain rfl := Nat.eq_of_beq_eq_true hp
      exact (h (intOf (nth args 0)) κ).symm.trans (cong2 (fun a l => (ev Try.prog cfg k).call 182 a l κ) (e.symm.trans (okC_eq hs.1).symm) (e'.symm.trans (okB_eq hs.2).symm))
    · rfl
  · rfl
theorem F182_k  (cf : CallF) (lf : LoopF) (a0 : Int) (κ : Res → Option Res) : evFn Try.prog cfg cf lf 182 [.int .i64 a0] [] κ = F182_B  a0 (fun x => κ ((.agg [.int .i64 x.1, .int .i64 x.2.1, .str x.2.2.1, .bool x.2.2.2], []) : Res)) := by
  kernel_rfl
theorem F182_ev : ∀ (k : Nat) (a0 : Int) (κ : Res → Option Res), (ev Try.prog cfg k).call 182 [.int .i64 a0] [] κ = F182 k a0 (fun x => κ ((.agg [.int .i64 x.1, .int .i64 x.2.1, .str x.2.2.1, .bool x.2.2.2], []) : Res)) := by
  intro k
  induction k with
  | zero => intros; rfl
  | succ k ih =>
    intro a0 κ
    refine (ev_call' Try.prog cfg k 182 0 _ _ κ (by rfl)).trans ?_
    skip
    exact F182_k  _ _ a0 κ
def F183_B  (a0 : ByteArray) (κ : T2 → Option Res) : Option Res :=
  chk6 (κ ((2 : Int), ((0 : Int), (a0, false))))
/-- lamplighter/value.Text -/
def F183 : Nat → ByteArray → (T2 → Option Res) → Option Res
  | 0, _, _ => none
  | k + 1, a0, κ => F183_B  a0 κ
def F183_s : List SC := [.one .str]
def F183_b : List (List SC) := []
def F183_m (g : ByteArray → (T2 → Option Res) → Option Res) (cf : CallF) : CallF := fun f args lent κ => match Nat.beq f 183 with
  | true => match okC F183_s args && okB F183_b lent with
    | true => g (stringOf (nth args 0)) (fun x => κ ((.agg [.int .i64 x.1, .int .i64 x.2.1, .str x.2.2.1, .bool x.2.2.2], []) : Res))
    | false => cf f args lent κ
  | false => cf f args lent κ
theorem F183_d (k : Nat) (h : ∀ (a0 : ByteArray) (κ : Res → Option Res), (ev Try.prog cfg k).call 183 [.str a0] [] κ = F183 k a0 (fun x => κ ((.agg [.int .i64 x.1, .int .i64 x.2.1, .str x.2.2.1, .bool x.2.2.2], []) : Res))) : F183_m (F183 k) (ev Try.prog cfg k).call = (ev Try.prog cfg k).call := by
  funext f args lent κ
  unfold F183_m
  split
  · rename_i hp
    split
    · rename_i hs
      rw [Bool.and_eq_true] at hs
      have e : mkC F183_s 0 args = [.str (stringOf (nth args 0))] := by kernel_rfl
      have e' : mkB F183_b 0 lent = [] := by kernel_rfl
      obtain rfl := Nat.eq_of_beq_eq_true hp
      exact (h (stringOf (nth args 0)) κ).symm.trans (cong2 (fun a l => (ev Try.prog cfg k).call 183 a l κ) (e.symm.trans (okC_eq hs.1).symm) (e'.symm.trans (okB_eq hs.2).symm))
    · rfl
  · rfl
theorem F183_k  (cf : CallF) (lf : LoopF) (a0 : ByteArray) (κ : Res → Option Res) : evFn Try.prog cfg cf lf 183 [.str a0] [] κ = F183_B  a0 (fun x => κ ((.agg [.int .i64 x.1, .int .i64 x.2.1, .str x.2.2.1, .bool x.2.2.2], []) : Res)) := by
  kernel_rfl
theorem F183_ev : ∀ (k : Nat) (a0 : ByteArray) (κ : Res → Option Res), (ev Try.prog cfg k).call 183 [.str a0] [] κ = F183 k a0 (fun x => κ ((.agg [.int .i64 x.1, .int .i64 x.2.1, .str x.2.2.1, .bool x.2.2.2], []) : Res)) := by
  intro k
  induction k with
  | zero => intros; rfl
  | succ k ih =>
    intro a0 κ
    refine (ev_call' Try.prog cfg k 183 0 _ _ κ (by rfl)).trans ?_
    skip
    exact F183_k  _ _ a0 κ
def F184_B  (a0 : Bool) (κ : T2 → Option Res) : Option Res :=
  chk6 (κ ((3 : Int), ((0 : Int), ((⟨#[]⟩ : ByteArray), a0))))
/-- lamplighter/value.Truth -/
def F184 : Nat → Bool → (T2 → Option Res) → Option Res
  | 0, _, _ => none
  | k + 1, a0, κ => F184_B  a0 κ
def F184_s : List SC := [.one .bool]
def F184_b : List (List SC) := []
def F184_m (g : Bool → (T2 → Option Res) → Option Res) (cf : CallF) : CallF := fun f args lent κ => match Nat.beq f 184 with
  | true => match okC F184_s args && okB F184_b lent with
    | true => g (boolOf (nth args 0)) (fun x => κ ((.agg [.int .i64 x.1, .int .i64 x.2.1, .str x.2.2.1, .bool x.2.2.2], []) : Res))
    | false => cf f args lent κ
  | false => cf f args lent κ
theorem F184_d (k : Nat) (h : ∀ (a0 : Bool) (κ : Res → Option Res), (ev Try.prog cfg k).call 184 [.bool a0] [] κ = F184 k a0 (fun x => κ ((.agg [.int .i64 x.1, .int .i64 x.2.1, .str x.2.2.1, .bool x.2.2.2], []) : Res))) : F184_m (F184 k) (ev Try.prog cfg k).call = (ev Try.prog cfg k).call := by
  funext f args lent κ
  unfold F184_m
  split
  · rename_i hp
    split
    · rename_i hs
      rw [Bool.and_eq_true] at hs
      have e : mkC F184_s 0 args = [.bool (boolOf (nth args 0))] := by kernel_rfl
      have e' : mkB F184_b 0 lent = [] := by kernel_rfl
      obtain rfl := Nat.eq_of_beq_eq_true hp
      exact (h (boolOf (nth args 0)) κ).symm.trans (cong2 (fun a l => (ev Try.prog cfg k).call 184 a l κ) (e.symm.trans (okC_eq hs.1).symm) (e'.symm.trans (okB_eq hs.2).symm))
    · rfl
  · rfl
theorem F184_k  (cf : CallF) (lf : LoopF) (a0 : Bool) (κ : Res → Option Res) : evFn Try.prog cfg cf lf 184 [.bool a0] [] κ = F184_B  a0 (fun x => κ ((.agg [.int .i64 x.1, .int .i64 x.2.1, .str x.2.2.1, .bool x.2.2.2], []) : Res)) := by
  kernel_rfl
theorem F184_ev : ∀ (k : Nat) (a0 : Bool) (κ : Res → Option Res), (ev Try.prog cfg k).call 184 [.bool a0] [] κ = F184 k a0 (fun x => κ ((.agg [.int .i64 x.1, .int .i64 x.2.1, .str x.2.2.1, .bool x.2.2.2], []) : Res)) := by
  intro k
  induction k with
  | zero => intros; rfl
  | succ k ih =>
    intro a0 κ
    refine (ev_call' Try.prog cfg k 184 0 _ _ κ (by rfl)).trans ?_
    skip
    exact F184_k  _ _ a0 κ
end Go.Proofs.Ytkfphlmbdppbfaa.CoT
