/- The functions that 'lamplighter/lamplighterlaw18.CheckMade' reaches, over lists and numbers, and that the machine of values comes to them (printed by wip/vm/gen.py). No condition. -/
import Derived.Test.YtfdgjpeanffknaaVmShape
import Derived.Test.YtfdgjpeanffknaaProg
import Derived.KernelRfl
namespace Go.Proofs.Ytfdgjpeanffknaa.ChM
open Go Go.Proofs.Ytfdgjpeanffknaa.Vm
set_option linter.unusedVariables false
set_option maxRecDepth 100000
def tab : List Row := [
  ⟨2, false, [.int .i64], (.int .i64), 8, .flat⟩,
  ⟨3, false, [.int .i64], (.int .i64), 8, .flat⟩,
  ⟨4, false, [.bool], .bool, 1, .flat⟩,
  ⟨5, false, [.int .u8], (.int .u8), 1, .flat⟩,
  ⟨9, false, [.str], .str, 16, .flat⟩,
  ⟨22, false, [.list (.int .i64)], (.list (.int .i64)), 24, .slice 3⟩,
  ⟨23, false, [.ptr], .unit, 8, .flat⟩,
  ⟨24, false, [.int .i64], (.int .i64), 8, .flat⟩,
  ⟨27, false, [.list (.pair .str (.list (.pair .str (.int .i64))))], (.list (.pair .str (.list (.pair .str (.int .i64))))), 24, .slice 54⟩,
  ⟨31, false, [.list (.pair .str (.pair (.list .str) (.pair .bool (.pair (.int .i64) (.pair (.int .i64) (.list (.pair (.int .i64) (.pair (.pair (.int .i64) (.pair (.int .i64) (.pair .str .bool))) (.pair .str .str)))))))))], (.list (.pair .str (.pair (.list .str) (.pair .bool (.pair (.int .i64) (.pair (.int .i64) (.list (.pair (.int .i64) (.pair (.pair (.int .i64) (.pair (.int .i64) (.pair .str .bool))) (.pair .str .str)))))))))), 24, .slice 40⟩,
  ⟨33, true, [.list (.pair .str (.pair (.list .str) (.pair .bool (.pair (.int .i64) (.pair (.int .i64) (.list (.pair (.int .i64) (.pair (.pair (.int .i64) (.pair (.int .i64) (.pair .str .bool))) (.pair .str .str))))))))), .int .i64, .int .i64], (.pair (.list (.pair .str (.pair (.list .str) (.pair .bool (.pair (.int .i64) (.pair (.int .i64) (.list (.pair (.int .i64) (.pair (.pair (.int .i64) (.pair (.int .i64) (.pair .str .bool))) (.pair .str .str)))))))))) (.pair (.int .i64) (.int .i64))), 40, .struct [(0, 31), (1, 2), (2, 3)]⟩,
  ⟨37, false, [.list .str], (.list .str), 24, .slice 9⟩,
  ⟨38, false, [.list (.pair (.int .i64) (.pair (.pair (.int .i64) (.pair (.int .i64) (.pair .str .bool))) (.pair .str .str)))], (.list (.pair (.int .i64) (.pair (.pair (.int .i64) (.pair (.int .i64) (.pair .str .bool))) (.pair .str .str)))), 24, .slice 45⟩,
  ⟨40, true, [.str, .list .str, .bool, .int .i64, .int .i64, .list (.pair (.int .i64) (.pair (.pair (.int .i64) (.pair (.int .i64) (.pair .str .bool))) (.pair .str .str)))], (.pair .str (.pair (.list .str) (.pair .bool (.pair (.int .i64) (.pair (.int .i64) (.list (.pair (.int .i64) (.pair (.pair (.int .i64) (.pair (.int .i64) (.pair .str .bool))) (.pair .str .str))))))))), 88, .struct [(0, 9), (1, 37), (2, 4), (3, 3), (4, 3), (5, 38)]⟩,
  ⟨43, true, [.int .i64, .int .i64, .str, .bool], (.pair (.int .i64) (.pair (.int .i64) (.pair .str .bool))), 40, .struct [(0, 3), (1, 2), (2, 9), (3, 4)]⟩,
  ⟨45, true, [.int .i64, .int .i64, .int .i64, .str, .bool, .str, .str], (.pair (.int .i64) (.pair (.pair (.int .i64) (.pair (.int .i64) (.pair .str .bool))) (.pair .str .str))), 80, .struct [(0, 3), (1, 43), (5, 9), (6, 9)]⟩,
  ⟨51, true, [.list (.pair .str (.list (.pair .str (.int .i64))))], (.list (.pair .str (.list (.pair .str (.int .i64))))), 24, .struct [(0, 27)]⟩,
  ⟨52, false, [.list (.pair .str (.int .i64))], (.list (.pair .str (.int .i64))), 24, .slice 61⟩,
  ⟨54, true, [.str, .list (.pair .str (.int .i64))], (.pair .str (.list (.pair .str (.int .i64)))), 40, .struct [(0, 9), (1, 52)]⟩,
  ⟨61, true, [.str, .int .i64], (.pair .str (.int .i64)), 24, .struct [(0, 9), (1, 3)]⟩,
  ⟨68, false, [.fn], .unit, 8, .flat⟩,
  ⟨73, false, [.list (.pair .str (.list .str))], (.list (.pair .str (.list .str))), 24, .slice 88⟩,
  ⟨75, false, [.list (.list .str)], (.list (.list .str)), 24, .slice 37⟩,
  ⟨80, false, [.fn], .unit, 8, .flat⟩,
  ⟨88, true, [.str, .list .str], (.pair .str (.list .str)), 40, .struct [(0, 9), (1, 37)]⟩,
  ⟨91, false, [.fn], .unit, 8, .flat⟩,
  ⟨95, false, [.fn], .unit, 8, .flat⟩]
def pathEq' : List Bool → List Bool → Bool
  | [], [] => true
  | true :: p, true :: q => pathEq' p q
  | false :: p, false :: q => pathEq' p q
  | _, _ => false
def cfg : Cfg := ⟨tab, fun f => 2, fun f => if Nat.beq f 14 = true then 2 else if Nat.beq f 36 = true then 1 else 0, fun f => if Nat.beq f 3 = true then [2, 3, 4, 5] else if Nat.beq f 6 = true then [2, 3, 4, 8, 30, 42, 54] else if Nat.beq f 7 = true then [0] else if Nat.beq f 8 = true then [0, 1, 2, 5] else if Nat.beq f 9 = true then [4, 5, 6, 7, 11, 14, 45, 47, 56] else if Nat.beq f 10 = true then [3, 4, 5, 6, 8, 112] else if Nat.beq f 11 = true then [2, 3, 4, 5] else if Nat.beq f 12 = true then [2, 3] else if Nat.beq f 13 = true then [5] else if Nat.beq f 15 = true then [6, 8, 9, 11, 12, 13, 49, 92, 108] else if Nat.beq f 16 = true then [0] else if Nat.beq f 17 = true then [2, 13] else if Nat.beq f 18 = true then [6, 7, 19, 21, 29, 41, 50, 60] else if Nat.beq f 19 = true then [2] else if Nat.beq f 20 = true then [4] else if Nat.beq f 21 = true then [3] else if Nat.beq f 22 = true then [4] else if Nat.beq f 23 = true then [4] else if Nat.beq f 24 = true then [6, 7, 8, 11, 12, 13, 37, 42, 44, 53, 66] else if Nat.beq f 25 = true then [4, 5, 6, 34, 44] else if Nat.beq f 28 = true then [4, 5, 17] else if Nat.beq f 29 = true then [4, 5, 17] else if Nat.beq f 30 = true then [3] else if Nat.beq f 31 = true then [4, 5, 17] else if Nat.beq f 32 = true then [2, 3, 6] else if Nat.beq f 33 = true then [2, 3, 10, 17] else if Nat.beq f 34 = true then [6, 7, 8, 9, 11, 12, 13, 29, 52] else if Nat.beq f 35 = true then [4, 5, 8, 15, 29] else if Nat.beq f 37 = true then [2, 5, 26] else if Nat.beq f 38 = true then [4, 5, 17] else if Nat.beq f 39 = true then [3] else if Nat.beq f 40 = true then [6, 7, 9, 10, 12, 30, 32] else if Nat.beq f 41 = true then [3] else if Nat.beq f 42 = true then [4] else if Nat.beq f 43 = true then [3] else if Nat.beq f 44 = true then [2, 5, 12, 25] else if Nat.beq f 45 = true then [4, 5, 17] else [], fun f => if Nat.beq f 3 = true then [2, 3] else if Nat.beq f 6 = true then [2, 3, 4, 8] else if Nat.beq f 7 = true then [0] else if Nat.beq f 8 = true then [0, 1] else if Nat.beq f 9 = true then [4, 5, 6, 7, 11, 14, 47, 56] else if Nat.beq f 10 = true then [3, 4, 5, 6, 8] else if Nat.beq f 11 = true then [2, 3, 4, 5] else if Nat.beq f 12 = true then [2, 3] else if Nat.beq f 13 = true then [5] else if Nat.beq f 15 = true then [6, 8, 9, 11, 12, 13] else if Nat.beq f 16 = true then [0] else if Nat.beq f 17 = true then [2] else if Nat.beq f 18 = true then [6, 7, 19, 21, 29, 41, 50, 60] else if Nat.beq f 19 = true then [2] else if Nat.beq f 20 = true then [4] else if Nat.beq f 21 = true then [3] else if Nat.beq f 22 = true then [4] else if Nat.beq f 23 = true then [4] else if Nat.beq f 24 = true then [6, 7, 8, 11, 12, 13, 37, 42] else if Nat.beq f 25 = true then [4, 5, 6] else if Nat.beq f 28 = true then [4, 5] else if Nat.beq f 29 = true then [4, 5] else if Nat.beq f 30 = true then [3] else if Nat.beq f 31 = true then [4, 5] else if Nat.beq f 32 = true then [2, 3, 6] else if Nat.beq f 33 = true then [2, 3, 10, 17] else if Nat.beq f 34 = true then [6, 7, 8, 9, 11, 12, 13] else if Nat.beq f 35 = true then [4, 5, 8, 15, 29] else if Nat.beq f 37 = true then [2, 5, 26] else if Nat.beq f 38 = true then [4, 5] else if Nat.beq f 39 = true then [3] else if Nat.beq f 40 = true then [6, 7, 10] else if Nat.beq f 41 = true then [3] else if Nat.beq f 42 = true then [4] else if Nat.beq f 43 = true then [3] else if Nat.beq f 44 = true then [2, 5, 12, 25] else if Nat.beq f 45 = true then [4, 5] else [], fun f p => if Nat.beq f 11 = true then (if pathEq' p [true, true, false, true, false] = true then [1, 2, 3, 4, 5, 6, 7, 8, 9, 10, 11, 12, 13, 14, 15, 16, 17, 18, 19, 22, 23, 24, 25, 26, 27, 28, 29, 30, 31, 32, 33, 34, 35, 36, 37, 38, 39, 40, 41, 42, 43, 44, 45, 46, 47, 48, 49, 50, 51, 52, 53, 54, 55, 56, 57] else if pathEq' p [true, true, true, false, true, false] = true then [1, 2, 3, 4, 5, 6, 7, 8, 9, 10, 11, 12, 13, 14, 15, 16, 17, 18, 19, 20, 21, 22, 23, 24, 25, 26, 27, 28, 29, 30, 31, 32, 33, 34, 35, 36, 37, 38, 39, 40, 41, 44, 45, 46, 47, 48, 49, 50, 51, 52, 53, 54, 55, 56, 57] else []) else if Nat.beq f 28 = true then (if pathEq' p [true, false, true, false] = true then [2, 3, 4, 5, 6, 9, 10, 11, 12, 13, 14, 15, 16, 17, 18] else []) else if Nat.beq f 12 = true then (if pathEq' p [true, true, false, true, false] = true then [1, 2, 3, 4, 5, 6, 7, 11, 12, 13, 14, 15, 16, 17, 18, 19, 20, 21, 22, 23, 24, 25, 26, 27, 28, 29, 30, 31, 32, 33, 34] else []) else if Nat.beq f 13 = true then (if pathEq' p [true, true, false, true, false] = true then [0, 2, 3, 5, 6, 7, 8, 9, 10, 11, 12, 13, 17, 18, 19, 20, 21, 22, 23, 24, 25, 26, 27, 28, 29, 30, 31] else []) else if Nat.beq f 6 = true then (if pathEq' p [true, true, true, false, true, false] = true then [0, 1, 2, 3, 5, 6, 7, 8, 9, 10, 11, 12, 17, 18, 19, 20, 21, 22, 23, 24, 25, 26, 27, 28, 29, 30, 31, 32, 33, 34, 35, 36, 37, 38, 39, 40, 41, 42, 43, 44, 45, 46, 47, 48, 49, 50, 51, 52, 53, 54] else []) else if Nat.beq f 29 = true then (if pathEq' p [true, false, true, false] = true then [2, 3, 4, 5, 6, 9, 10, 11, 12, 13, 14, 15, 16, 17, 18] else []) else if Nat.beq f 31 = true then (if pathEq' p [true, false, true, false] = true then [2, 3, 4, 5, 6, 9, 10, 11, 12, 13, 14, 15, 16, 17, 18] else []) else if Nat.beq f 25 = true then (if pathEq' p [true, true, false, true, false] = true then [0, 2, 3, 4, 6, 7, 8, 12, 13, 14, 15, 16, 17, 18, 19, 20, 21, 22, 23, 24, 25, 26, 27, 28, 29, 30, 31, 32, 33, 34, 35, 36, 37, 38, 39, 40, 41, 42, 43, 44] else []) else if Nat.beq f 32 = true then (if pathEq' p [true, true, true, false, true, false] = true then [0, 1, 2, 4, 5, 6, 7, 8, 9, 13, 14, 15, 16, 17, 18, 19, 20, 21, 22, 23, 24, 25, 26, 27, 28, 29, 30, 31, 32, 33, 34, 35, 36, 37] else []) else if Nat.beq f 38 = true then (if pathEq' p [true, false, true, false] = true then [2, 3, 4, 5, 6, 9, 10, 11, 12, 13, 14, 15, 16, 17, 18] else []) else if Nat.beq f 40 = true then (if pathEq' p [true, true, false, true, false] = true then [0, 1, 3, 4, 5, 6, 7, 8, 9, 10, 11, 12, 13, 14, 15, 16, 17, 18, 22, 23, 24, 25, 26, 27, 28, 29, 30, 31, 32, 33] else []) else if Nat.beq f 34 = true then (if pathEq' p [true, true, true, true, false, true, false] = true then [1, 2, 3, 4, 6, 7, 8, 10, 11, 12, 13, 14, 15, 16, 17, 18, 19, 20, 21, 22, 26, 27, 28, 29, 30, 31, 32, 33, 34, 35, 36, 37, 38, 39, 40, 41, 42, 43, 44, 45, 46, 47, 48, 49, 50, 51, 52] else []) else if Nat.beq f 45 = true then (if pathEq' p [true, false, true, false] = true then [2, 3, 4, 5, 6, 9, 10, 11, 12, 13, 14, 15, 16, 17, 18] else []) else if Nat.beq f 24 = true then (if pathEq' p [true, true, true, false, true, false] = true then [2, 3, 4, 5, 6, 7, 9, 10, 11, 12, 13, 14, 15, 16, 20, 21, 22, 23, 24, 25, 26, 27, 28, 29, 30, 31, 32, 33, 34, 35, 36, 37, 38, 39, 40, 41, 42, 43, 44, 45, 46, 47, 48, 49, 50, 51, 52, 53, 54, 55, 56, 57, 58, 59, 60, 61, 62, 63, 64, 65, 66] else []) else if Nat.beq f 15 = true then (if pathEq' p [true, true, true, true, false, true, false] = true then [1, 3, 5, 6, 8, 9, 10, 11, 12, 13, 14, 15, 16, 17, 18, 19, 20, 21, 22, 23, 24, 25, 26, 27, 28, 29, 30, 31, 32, 33, 34, 35, 36, 37, 38, 39, 40, 41, 45, 46, 47, 48, 49, 50, 51, 52, 53, 54, 55, 56, 57, 58, 59, 60, 61, 62, 63, 64, 65, 66, 67, 68, 69, 70, 71, 72, 73, 74, 75, 76, 77, 78, 79, 80, 81, 82, 83, 84, 85, 86, 87, 88, 89, 90, 91, 92, 93, 94, 95, 96, 97, 98, 99, 100, 101, 102, 103, 104, 105, 106, 107, 108] else []) else if Nat.beq f 9 = true then (if pathEq' p [true, true, true, false, true, false] = true then [1, 2, 4, 5, 6, 7, 8, 9, 10, 11, 12, 13, 14, 15, 16, 17, 18, 19, 20, 21, 22, 23, 24, 25, 26, 27, 28, 29, 30, 31, 32, 33, 34, 37, 38, 39, 40, 41, 42, 43, 44, 45, 46, 47, 48, 49, 50, 51, 52, 53, 54, 55, 56, 57, 58, 59, 60, 61, 62, 63, 64] else []) else if Nat.beq f 10 = true then (if pathEq' p [true, true, true, true, true, true, false, true, false] = true then [1, 3, 6, 7, 8, 9, 10, 11, 12, 13, 14, 15, 16, 17, 18, 19, 20, 21, 22, 23, 24, 25, 26, 27, 28, 29, 30, 31, 32, 33, 34, 35, 36, 37, 38, 39, 40, 41, 42, 43, 44, 45, 46, 47, 48, 49, 50, 51, 52, 53, 54, 55, 56, 57, 58, 59, 60, 61, 62, 63, 64, 65, 66, 67, 68, 69, 70, 71, 72, 73, 74, 75, 76, 77, 78, 79, 80, 81, 82, 83, 84, 85, 86, 87, 88, 89, 90, 91, 92, 93, 94, 95, 96, 97, 98, 99, 100, 101, 102, 103, 104, 105, 106, 107, 108, 109, 110, 111, 112, 113, 114, 115, 116, 117] else []) else [], fun f p => if Nat.beq f 24 = true then (if pathEq' p [true, true, true, false, true, false] = true then [8] else []) else [], fun f p => []⟩
abbrev T0 : Type := (Int × (ByteArray × Bool))
abbrev T1 : Type := (ByteArray × (List ByteArray))
abbrev T2 : Type := (Int × T0)
abbrev T3 : Type := (List T1)
abbrev T4 : Type := (ByteArray × (List (ByteArray × Int)))
abbrev T5 : Type := (List T4)
abbrev T6 : Type := (T2 × (ByteArray × ByteArray))
abbrev T7 : Type := (Int × T6)
abbrev T8 : Type := (List T7)
abbrev T9 : Type := (Int × T8)
abbrev T10 : Type := (Int × T9)
abbrev T11 : Type := (Bool × T10)
abbrev T12 : Type := ((List ByteArray) × T11)
abbrev T13 : Type := (ByteArray × T12)
abbrev T14 : Type := (List T13)
abbrev T15 : Type := (T14 × (Int × Int))
abbrev tF7 : Type := (T5 → Option Res) → Option Res
abbrev tF19 : Type := Int → (Bool → Option Res) → Option Res
abbrev tF11 : Type := ByteArray → (Bool → Option Res) → Option Res
abbrev tL11_0 : Type := ByteArray → Int → Int → (Int → Option Res) → Option Res
abbrev tL11_1 : Type := ByteArray → Int → Int → (Int → Option Res) → Option Res
abbrev tF21 : Type := (ByteArray × Int) → ByteArray → Int → (Bool × ByteArray × Int → Option Res) → Option Res
abbrev tF28 : Type := (List (ByteArray × Int)) → ByteArray → Int → (Int × ByteArray × Int → Option Res) → Option Res
abbrev tL28_0 : Type := (List (ByteArray × Int)) → Int → Int → ByteArray → Int → (Int × ByteArray × Int → Option Res) → Option Res
abbrev tF20 : Type := (List (ByteArray × Int)) → ByteArray → Int → (Bool × ByteArray × Int → Option Res) → Option Res
abbrev tF12 : Type := (List (ByteArray × Int)) → (Bool → Option Res) → Option Res
abbrev tL12_0 : Type := (List (ByteArray × Int)) → (List (ByteArray × Int)) → Int → Int → (Int → Option Res) → Option Res
abbrev tF13 : Type := ByteArray → T5 → (T4 × Bool × T5 → Option Res) → Option Res
abbrev tL13_0 : Type := ByteArray → Int → Int → ByteArray → (List (ByteArray × Int)) → T5 → (Int → Option Res) → Option Res
abbrev tF6 : Type := T5 → (Int → Option Res) → (Int × T5 → Option Res) → Option Res
abbrev tL6_0 : Type := T5 → Int → Int → T5 → (Int × T5 → Option Res) → Option Res
abbrev tF30 : Type := T13 → ByteArray → (Bool × ByteArray → Option Res) → Option Res
abbrev tF29 : Type := T14 → ByteArray → (Int × ByteArray → Option Res) → Option Res
abbrev tL29_0 : Type := T14 → Int → Int → ByteArray → (Int × ByteArray → Option Res) → Option Res
abbrev tF22 : Type := T15 → ByteArray → (Int → Option Res) → Option Res
abbrev tF13v1 : Type := ByteArray → (T4 × Bool → Option Res) → Option Res
abbrev tF31 : Type := (List ByteArray) → ByteArray → (Int → Option Res) → Option Res
abbrev tL31_0 : Type := (List ByteArray) → ByteArray → Int → Int → (Int → Option Res) → Option Res
abbrev tF23 : Type := (List ByteArray) → ByteArray → (Bool → Option Res) → Option Res
abbrev tF25 : Type := T15 → Int → (T3 → Option Res) → Option Res
abbrev tL25_0 : Type := Int → T3 → T14 → Int → Int → (T3 × Int → Option Res) → Option Res
abbrev tF33 : Type := Int → (Int → Option Res) → Option Res
abbrev tF46 : Type := Int → (T2 → Option Res) → Option Res
abbrev tF47 : Type := ByteArray → (T2 → Option Res) → Option Res
abbrev tF48 : Type := Bool → (T2 → Option Res) → Option Res
abbrev tF44 : Type := T2 → (Bool → Option Res) → Option Res
abbrev tF37 : Type := T7 → (Bool → Option Res) → Option Res
abbrev tF32 : Type := T8 → (Bool → Option Res) → Option Res
abbrev tL32_0 : Type := Int → T8 → Int → Int → (Int × Int → Option Res) → Option Res
abbrev tF39 : Type := T1 → Int → Int → Int → ByteArray → Bool → ByteArray → ByteArray → (Bool × Int × Int × Int × ByteArray × Bool × ByteArray × ByteArray → Option Res) → Option Res
abbrev tF38 : Type := T3 → Int → Int → Int → ByteArray → Bool → ByteArray → ByteArray → (Int × Int × Int × Int × ByteArray × Bool × ByteArray × ByteArray → Option Res) → Option Res
abbrev tL38_0 : Type := T3 → Int → Int → Int → Int → Int → ByteArray → Bool → ByteArray → ByteArray → (Int × Int × Int × Int × ByteArray × Bool × ByteArray × ByteArray → Option Res) → Option Res
abbrev tF40 : Type := ByteArray → ByteArray → (Int × Int → Option Res) → Option Res
abbrev tL40_0 : Type := ByteArray → (List (ByteArray × Int)) → Int → Int → (Int → Option Res) → Option Res
abbrev tF34 : Type := T3 → T7 → (Int × Int → Option Res) → Option Res
abbrev tL34_0 : Type := Int → (List ByteArray) → Int → Int → Int → Int → Int → ByteArray → Bool → ByteArray → ByteArray → (Int × Int → Option Res) → Option Res
abbrev tF43 : Type := Int → Int → (Bool × Int → Option Res) → Option Res
abbrev tF45 : Type := (List Int) → Int → (Int × Int → Option Res) → Option Res
abbrev tL45_0 : Type := (List Int) → Int → Int → Int → (Int × Int → Option Res) → Option Res
abbrev tF42 : Type := (List Int) → Int → (Bool × Int → Option Res) → Option Res
abbrev tF41 : Type := Int → (List Int) → (Bool × (List Int) → Option Res) → Option Res
abbrev tF35 : Type := Int → (List Int) → (Int → Option Res) → Option Res
abbrev tF24 : Type := T3 → T8 → (Int × Int → Option Res) → Option Res
abbrev tL24_0 : Type := T3 → (List Int) → T8 → Int → Int → ((List Int) × Int → Option Res) → Option Res
abbrev tF15 : Type := T15 → Int → (Int → Option Res) → Option Res
abbrev tL15_0 : Type := Int → (List ByteArray) → Int → Int → T14 → Int → Int → ByteArray → (List ByteArray) → Bool → Int → Int → T8 → (Int → Option Res) → Option Res
abbrev tF9 : Type := T15 → (Int → Option Res) → Option Res
abbrev tL9_0 : Type := Int → Int → T14 → Int → Int → (Int → Option Res) → Option Res
abbrev tF40v1 : Type := ByteArray → ByteArray → T5 → (Int × Int × T5 → Option Res) → Option Res
abbrev tL40v1_0 : Type := ByteArray → (List (ByteArray × Int)) → Int → Int → T5 → (Int → Option Res) → Option Res
abbrev tF34v1 : Type := T3 → T7 → T5 → (Int × Int × T5 → Option Res) → Option Res
abbrev tL34v1_0 : Type := Int → (List ByteArray) → Int → Int → Int → Int → Int → ByteArray → Bool → ByteArray → ByteArray → T5 → (Int × Int × T5 → Option Res) → Option Res
abbrev tF24v1 : Type := T3 → T8 → T5 → (Int × Int × T5 → Option Res) → Option Res
abbrev tL24v1_0 : Type := T3 → (List Int) → T8 → Int → Int → T5 → ((List Int) × Int × T5 → Option Res) → Option Res
abbrev tF15v1 : Type := T15 → Int → T5 → (Int × T5 → Option Res) → Option Res
abbrev tL15v1_0 : Type := Int → (List ByteArray) → Int → Int → T14 → Int → Int → ByteArray → (List ByteArray) → Bool → Int → Int → T8 → T5 → (Int × T5 → Option Res) → Option Res
abbrev tF9v1 : Type := T15 → T5 → (Int × T5 → Option Res) → Option Res
abbrev tL9v1_0 : Type := Int → Int → T14 → Int → Int → T5 → (Int × T5 → Option Res) → Option Res
abbrev tF8 : Type := (Bool → Option Res) → Option Res
abbrev tF16 : Type := ((List ByteArray) → Option Res) → Option Res
abbrev tF17 : Type := Int → ((List ByteArray) → Option Res) → Option Res
abbrev tF26 : Type := ByteArray → ByteArray → (T7 → Option Res) → Option Res
abbrev tF27 : Type := Int → (T7 → Option Res) → Option Res
abbrev tF18 : Type := Int → ByteArray → ByteArray → (T8 → Option Res) → Option Res
abbrev tF10 : Type := (List Int) → (T15 → Option Res) → Option Res
abbrev tL10_0 : Type := (List Int) → Int → Int → T14 → Int → Int → (Int × T14 → Option Res) → Option Res
def F7_B   (κ : T5 → Option Res) : Option Res :=
  chk8 (chk8 (chk8 (chk8 (chk8 (chk1 (κ ([((⟨#[65]⟩ : ByteArray), ([((⟨#[120]⟩ : ByteArray), (1 : Int)), ((⟨#[115]⟩ : ByteArray), (2 : Int))] : List (ByteArray × Int))), ((⟨#[66]⟩ : ByteArray), ([((⟨#[120]⟩ : ByteArray), (1 : Int)), ((⟨#[115]⟩ : ByteArray), (2 : Int))] : List (ByteArray × Int))), ((⟨#[67]⟩ : ByteArray), ([((⟨#[115]⟩ : ByteArray), (2 : Int)), ((⟨#[120]⟩ : ByteArray), (1 : Int)), ((⟨#[98]⟩ : ByteArray), (3 : Int))] : List (ByteArray × Int)))] : List T4)))))))
/-- lamplighter/lamplighterref03.Types -/
def F7 : Nat →  (T5 → Option Res) → Option Res
  | 0, _ => none
  | k + 1, κ => F7_B   κ
def F7_s : List SC := []
def F7_b : List (List SC) := []
def F7_m (g : (T5 → Option Res) → Option Res) (cf : CallF) : CallF := fun f args lent κ => match Nat.beq f 7 with
  | true => match okC F7_s args && okB F7_b lent with
    | true => g  (fun x => κ ((.list (.pair .str (.list (.pair .str (.int .i64)))) x (.own false false), []) : Res))
    | false => cf f args lent κ
  | false => cf f args lent κ
theorem F7_d (k : Nat) (h : ∀  (κ : Res → Option Res), (ev Try.prog cfg k).call 7 [] [] κ = F7 k  (fun x => κ ((.list (.pair .str (.list (.pair .str (.int .i64)))) x (.own false false), []) : Res))) : F7_m (F7 k) (ev Try.prog cfg k).call = (ev Try.prog cfg k).call := by
  funext f args lent κ
  unfold F7_m
  split
  · rename_i hp
    split
    · rename_i hs
      rw [Bool.and_eq_true] at hs
      have e : mkC F7_s 0 args = [] := by kernel_rfl
      have e' : mkB F7_b 0 lent = [] := by kernel_rfl
      obtain rfl := Nat.eq_of_beq_eq_true hp
      exact (h  κ).symm.trans (cong2 (fun a l => (ev Try.prog cfg k).call 7 a l κ) (e.symm.trans (okC_eq hs.1).symm) (e'.symm.trans (okB_eq hs.2).symm))
    · rfl
  · rfl
theorem F7_k  (cf : CallF) (lf : LoopF)  (κ : Res → Option Res) : evFn Try.prog cfg cf lf 7 [] [] κ = F7_B   (fun x => κ ((.list (.pair .str (.list (.pair .str (.int .i64)))) x (.own false false), []) : Res)) := by
  kernel_rfl
theorem F7_ev : ∀ (k : Nat)  (κ : Res → Option Res), (ev Try.prog cfg k).call 7 [] [] κ = F7 k  (fun x => κ ((.list (.pair .str (.list (.pair .str (.int .i64)))) x (.own false false), []) : Res)) := by
  intro k
  induction k with
  | zero => intros; rfl
  | succ k ih =>
    intro  κ
    refine (ev_call' Try.prog cfg k 7 0 _ _ κ (by rfl)).trans ?_
    skip
    exact F7_k  _ _  κ
def F19_B  (a0 : Int) (κ : Bool → Option Res) : Option Res :=
  chk1 (if decide (a0 ≥ (97 : Int)) = true then
    (chk1 (if decide (a0 ≤ (122 : Int)) = true then
      (chk1 (κ true))
     else
      (chk1 (if decide (a0 ≥ (65 : Int)) = true then
        (chk1 (if decide (a0 ≤ (90 : Int)) = true then
          (κ true)
         else
          (chk1 (κ (a0 == (95 : Int))))))
       else
        (if false = true then
         (none)
        else
         (chk1 (κ (a0 == (95 : Int)))))))))
   else
    (if false = true then
     (none)
    else
     (chk1 (if decide (a0 ≥ (65 : Int)) = true then
       (chk1 (if decide (a0 ≤ (90 : Int)) = true then
         (κ true)
        else
         (chk1 (κ (a0 == (95 : Int))))))
      else
       (if false = true then
        (none)
       else
        (chk1 (κ (a0 == (95 : Int)))))))))
/-- lamplighter/schema.letter -/
def F19 : Nat → Int → (Bool → Option Res) → Option Res
  | 0, _, _ => none
  | k + 1, a0, κ => F19_B  a0 κ
def F19_s : List SC := [.one (.int .u8)]
def F19_b : List (List SC) := []
def F19_m (g : Int → (Bool → Option Res) → Option Res) (cf : CallF) : CallF := fun f args lent κ => match Nat.beq f 19 with
  | true => match okC F19_s args && okB F19_b lent with
    | true => g (intOf (nth args 0)) (fun x => κ ((.bool x, []) : Res))
    | false => cf f args lent κ
  | false => cf f args lent κ
theorem F19_d (k : Nat) (h : ∀ (a0 : Int) (κ : Res → Option Res), (ev Try.prog cfg k).call 19 [.int .u8 a0] [] κ = F19 k a0 (fun x => κ ((.bool x, []) : Res))) : F19_m (F19 k) (ev Try.prog cfg k).call = (ev Try.prog cfg k).call := by
  funext f args lent κ
  unfold F19_m
  split
  · rename_i hp
    split
    · rename_i hs
      rw [Bool.and_eq_true] at hs
      have e : mkC F19_s 0 args = [.int .u8 (intOf (nth args 0))] := by kernel_rfl
      have e' : mkB F19_b 0 lent = [] := by kernel_rfl
      obtain rfl := Nat.eq_of_beq_eq_true hp
      exact (h (intOf (nth args 0)) κ).symm.trans (cong2 (fun a l => (ev Try.prog cfg k).call 19 a l κ) (e.symm.trans (okC_eq hs.1).symm) (e'.symm.trans (okB_eq hs.2).symm))
    · rfl
  · rfl
theorem F19_k  (cf : CallF) (lf : LoopF) (a0 : Int) (κ : Res → Option Res) : evFn Try.prog cfg cf lf 19 [.int .u8 a0] [] κ = F19_B  a0 (fun x => κ ((.bool x, []) : Res)) := by
  kernel_rfl
theorem F19_ev : ∀ (k : Nat) (a0 : Int) (κ : Res → Option Res), (ev Try.prog cfg k).call 19 [.int .u8 a0] [] κ = F19 k a0 (fun x => κ ((.bool x, []) : Res)) := by
  intro k
  induction k with
  | zero => intros; rfl
  | succ k ih =>
    intro a0 κ
    refine (ev_call' Try.prog cfg k 19 0 _ _ κ (by rfl)).trans ?_
    skip
    exact F19_k  _ _ a0 κ
def L11_1_B (gL11_1 : tL11_1) (κ : Bool → Option Res) (p0 : ByteArray) (p1 : Int) (p2 : Int) (K : Int → Option Res) : Option Res :=
  chk1 (if decide (p2 < p1) = true then
    (chk3 (if ((true && decide ((0 : Int) ≤ p2)) && (decide (p2 ≤ (IntKind.wrap .i64 ((IntKind.wrap .i64 (p2 + (p0.size : Int))) + (2 : Int)))) && decide ((IntKind.wrap .i64 ((IntKind.wrap .i64 (p2 + (p0.size : Int))) + (2 : Int))) ≤ ((⟨#[32, 83, 69, 81, 32, 87, 72, 69, 82, 69, 32, 87, 73, 84, 72, 73, 78, 32, 67, 65, 80, 32, 97, 110, 100, 32, 111, 114, 32, 110, 111, 116, 32, 116, 114, 117, 101, 32, 102, 97, 108, 115, 101, 32]⟩ : ByteArray).size : Int)))) = true then
      (if decide ((⟨#[32]⟩ : ByteArray).size + p0.size ≤ 9223372036854775807) = true then
       (if decide (((⟨#[32]⟩ : ByteArray) ++ p0).size + (⟨#[32]⟩ : ByteArray).size ≤ 9223372036854775807) = true then
        (chk1 (if (((⟨#[32, 83, 69, 81, 32, 87, 72, 69, 82, 69, 32, 87, 73, 84, 72, 73, 78, 32, 67, 65, 80, 32, 97, 110, 100, 32, 111, 114, 32, 110, 111, 116, 32, 116, 114, 117, 101, 32, 102, 97, 108, 115, 101, 32]⟩ : ByteArray).extract p2.toNat (IntKind.wrap .i64 ((IntKind.wrap .i64 (p2 + (p0.size : Int))) + (2 : Int))).toNat).toList == (((⟨#[32]⟩ : ByteArray) ++ p0) ++ (⟨#[32]⟩ : ByteArray)).toList) = true then
          (κ false)
         else
          (chk1 (gL11_1 p0 p1 (IntKind.wrap .i64 (p2 + (1 : Int))) K))))
       else
        (none))
      else
       (none))
     else
      (none)))
   else
    (K p2))
def L11_1 : Nat → (Bool → Option Res) → ByteArray → Int → Int → (Int → Option Res) → Option Res
  | 0, _, _, _, _, _ => none
  | k + 1, κ, p0, p1, p2, K => L11_1_B (fun p0 p1 p2 K => L11_1 k κ p0 p1 p2 K) κ p0 p1 p2 K
def L11_1_s : Tr SC := Tr.of (nthD (.one .undef) [.one .str, .one .undef, .one .undef, .one .undef, .one .undef, .one .undef, .one .undef, .one .undef, .one .undef, .one .undef, .one .undef, .one .undef, .one .undef, .one .undef, .one .undef, .one .undef, .one .undef, .one .undef, .one .undef, .one .undef, .one .undef, .one .undef, .one .undef, .one .undef, .one .undef, .one .undef, .one .undef, .one .undef, .one .undef, .one .undef, .one .undef, .one .undef, .one .undef, .one .undef, .one .undef, .one .undef, .one .undef, .one .undef, .one .undef, .one .undef, .one .undef, .one .undef, .one (.int .i64), .one (.int .i64)]) 6
def L11_1_b : Tr (List SC) := Tr.of (nthD [] []) 6
def L11_1_m (g : ByteArray → Int → Int → (Int → Option Res) → Option Res) (lf : LoopF) : LoopF := fun p σ K => match pathEq p [true, true, true, false, true, false] with
  | true => match okSt 58 L11_1_s L11_1_b σ with
    | true => g (stringOf (Tr.val .undef σ.slots)) (intOf (Tr.val .undef (Tr.lft (Tr.rgt (Tr.lft (Tr.rgt (Tr.rgt σ.slots))))))) (intOf (Tr.val .undef (Tr.lft (Tr.rgt (Tr.rgt (Tr.lft (Tr.lft σ.slots))))))) (fun v => K (.exit 2) ⟨58, Tr.of (nthD .undef [.str (stringOf (Tr.val .undef σ.slots)), .undef, .undef, .undef, .undef, .undef, .undef, .undef, .undef, .undef, .undef, .undef, .undef, .undef, .undef, .undef, .undef, .undef, .undef, .undef, .undef, .undef, .undef, .undef, .undef, .undef, .undef, .undef, .undef, .undef, .undef, .undef, .undef, .undef, .undef, .undef, .undef, .undef, .undef, .undef, .undef, .undef, .int .i64 (intOf (Tr.val .undef (Tr.lft (Tr.rgt (Tr.lft (Tr.rgt (Tr.rgt σ.slots))))))), .int .i64 v]) 6, Tr.of (nthD [] []) 6⟩)
    | false => lf p σ K
  | false => lf p σ K
theorem L11_1_d (k : Nat) (κ : Res → Option Res) (h : ∀ (p0 : ByteArray) (p1 : Int) (p2 : Int) (K : Cont), (ev Try.prog cfg k).loop 11 0 κ [true, true, true, false, true, false] ⟨58, Tr.of (nthD .undef [.str p0, .undef, .undef, .undef, .undef, .undef, .undef, .undef, .undef, .undef, .undef, .undef, .undef, .undef, .undef, .undef, .undef, .undef, .undef, .undef, .undef, .undef, .undef, .undef, .undef, .undef, .undef, .undef, .undef, .undef, .undef, .undef, .undef, .undef, .undef, .undef, .undef, .undef, .undef, .undef, .undef, .undef, .int .i64 p1, .int .i64 p2]) 6, Tr.of (nthD [] []) 6⟩ K = L11_1 k (fun x => κ ((.bool x, []) : Res)) p0 p1 p2 (fun v => K (.exit 2) ⟨58, Tr.of (nthD .undef [.str p0, .undef, .undef, .undef, .undef, .undef, .undef, .undef, .undef, .undef, .undef, .undef, .undef, .undef, .undef, .undef, .undef, .undef, .undef, .undef, .undef, .undef, .undef, .undef, .undef, .undef, .undef, .undef, .undef, .undef, .undef, .undef, .undef, .undef, .undef, .undef, .undef, .undef, .undef, .undef, .undef, .undef, .int .i64 p1, .int .i64 v]) 6, Tr.of (nthD [] []) 6⟩)) : L11_1_m (L11_1 k (fun x => κ ((.bool x, []) : Res))) ((ev Try.prog cfg k).loop 11 0 κ) = (ev Try.prog cfg k).loop 11 0 κ := by
  funext p σ K
  unfold L11_1_m
  split
  · rename_i hp
    split
    · rename_i hs
      have e : mkSt 58 L11_1_s L11_1_b σ = ⟨58, Tr.of (nthD .undef [.str (stringOf (Tr.val .undef σ.slots)), .undef, .undef, .undef, .undef, .undef, .undef, .undef, .undef, .undef, .undef, .undef, .undef, .undef, .undef, .undef, .undef, .undef, .undef, .undef, .undef, .undef, .undef, .undef, .undef, .undef, .undef, .undef, .undef, .undef, .undef, .undef, .undef, .undef, .undef, .undef, .undef, .undef, .undef, .undef, .undef, .undef, .int .i64 (intOf (Tr.val .undef (Tr.lft (Tr.rgt (Tr.lft (Tr.rgt (Tr.rgt σ.slots))))))), .int .i64 (intOf (Tr.val .undef (Tr.lft (Tr.rgt (Tr.rgt (Tr.lft (Tr.lft σ.slots)))))))]) 6, Tr.of (nthD [] []) 6⟩ := by kernel_rfl
      rw [pathEq_eq hp]
      exact (h (stringOf (Tr.val .undef σ.slots)) (intOf (Tr.val .undef (Tr.lft (Tr.rgt (Tr.lft (Tr.rgt (Tr.rgt σ.slots))))))) (intOf (Tr.val .undef (Tr.lft (Tr.rgt (Tr.rgt (Tr.lft (Tr.lft σ.slots))))))) K).symm.trans (congrArg (fun s => (ev Try.prog cfg k).loop 11 0 κ [true, true, true, false, true, false] s K) (e.symm.trans (okSt_eq hs).symm))
    · rfl
  · rfl
theorem L11_1_k (gL11_1 : tL11_1) (cf : CallF) (lf : LoopF) (κ : Res → Option Res) (p0 : ByteArray) (p1 : Int) (p2 : Int) (K : Cont) : evLp Try.prog cfg cf (L11_1_m gL11_1 lf) 11 0 κ [true, true, true, false, true, false] ⟨58, Tr.of (nthD .undef [.str p0, .undef, .undef, .undef, .undef, .undef, .undef, .undef, .undef, .undef, .undef, .undef, .undef, .undef, .undef, .undef, .undef, .undef, .undef, .undef, .undef, .undef, .undef, .undef, .undef, .undef, .undef, .undef, .undef, .undef, .undef, .undef, .undef, .undef, .undef, .undef, .undef, .undef, .undef, .undef, .undef, .undef, .int .i64 p1, .int .i64 p2]) 6, Tr.of (nthD [] []) 6⟩ K = L11_1_B gL11_1 (fun x => κ ((.bool x, []) : Res)) p0 p1 p2 (fun v => K (.exit 2) ⟨58, Tr.of (nthD .undef [.str p0, .undef, .undef, .undef, .undef, .undef, .undef, .undef, .undef, .undef, .undef, .undef, .undef, .undef, .undef, .undef, .undef, .undef, .undef, .undef, .undef, .undef, .undef, .undef, .undef, .undef, .undef, .undef, .undef, .undef, .undef, .undef, .undef, .undef, .undef, .undef, .undef, .undef, .undef, .undef, .undef, .undef, .int .i64 p1, .int .i64 v]) 6, Tr.of (nthD [] []) 6⟩) := by
  kernel_rfl
theorem L11_1_ev : ∀ (k : Nat) (κ : Res → Option Res) (p0 : ByteArray) (p1 : Int) (p2 : Int) (K : Cont), (ev Try.prog cfg k).loop 11 0 κ [true, true, true, false, true, false] ⟨58, Tr.of (nthD .undef [.str p0, .undef, .undef, .undef, .undef, .undef, .undef, .undef, .undef, .undef, .undef, .undef, .undef, .undef, .undef, .undef, .undef, .undef, .undef, .undef, .undef, .undef, .undef, .undef, .undef, .undef, .undef, .undef, .undef, .undef, .undef, .undef, .undef, .undef, .undef, .undef, .undef, .undef, .undef, .undef, .undef, .undef, .int .i64 p1, .int .i64 p2]) 6, Tr.of (nthD [] []) 6⟩ K = L11_1 k (fun x => κ ((.bool x, []) : Res)) p0 p1 p2 (fun v => K (.exit 2) ⟨58, Tr.of (nthD .undef [.str p0, .undef, .undef, .undef, .undef, .undef, .undef, .undef, .undef, .undef, .undef, .undef, .undef, .undef, .undef, .undef, .undef, .undef, .undef, .undef, .undef, .undef, .undef, .undef, .undef, .undef, .undef, .undef, .undef, .undef, .undef, .undef, .undef, .undef, .undef, .undef, .undef, .undef, .undef, .undef, .undef, .undef, .int .i64 p1, .int .i64 v]) 6, Tr.of (nthD [] []) 6⟩) := by
  intro k κ
  induction k with
  | zero => intro p0 p1 p2 K; rfl
  | succ k ih =>
    intro p0 p1 p2 K
    rw [ev_loop, ← L11_1_d k κ ih]
    exact L11_1_k _ _ _ κ p0 p1 p2 K
def L11_0_B (gF19 : tF19) (gL11_0 : tL11_0) (κ : Bool → Option Res) (p0 : ByteArray) (p1 : Int) (p2 : Int) (K : Int → Option Res) : Option Res :=
  chk1 (if decide (p2 < p1) = true then
    (if (true && (decide ((0 : Int) ≤ p2) && decide (p2 < (p0.size : Int)))) = true then
     (chk1 (gF19 (byteAt p0 p2) fun x2 =>
      chk1 (if (!x2) = true then
        (chk1 (if decide ((byteAt p0 p2) < (48 : Int)) = true then
          (chk1 (κ false))
         else
          (chk1 (if decide ((byteAt p0 p2) > (57 : Int)) = true then
            (κ false)
           else
            (chk1 (gL11_0 p0 p1 (IntKind.wrap .i64 (p2 + (1 : Int))) K))))))
       else
        (if false = true then
         (none)
        else
         (chk1 (gL11_0 p0 p1 (IntKind.wrap .i64 (p2 + (1 : Int))) K))))))
    else
     (none))
   else
    (K p2))
def L11_0 : Nat → (Bool → Option Res) → ByteArray → Int → Int → (Int → Option Res) → Option Res
  | 0, _, _, _, _, _ => none
  | k + 1, κ, p0, p1, p2, K => L11_0_B (F19 k) (fun p0 p1 p2 K => L11_0 k κ p0 p1 p2 K) κ p0 p1 p2 K
def L11_0_s : Tr SC := Tr.of (nthD (.one .undef) [.one .str, .one .undef, .one .undef, .one .undef, .one .undef, .one .undef, .one .undef, .one .undef, .one .undef, .one .undef, .one .undef, .one .undef, .one .undef, .one .undef, .one .undef, .one .undef, .one .undef, .one .undef, .one .undef, .one .undef, .one (.int .i64), .one (.int .i64)]) 6
def L11_0_b : Tr (List SC) := Tr.of (nthD [] []) 6
def L11_0_m (g : ByteArray → Int → Int → (Int → Option Res) → Option Res) (lf : LoopF) : LoopF := fun p σ K => match pathEq p [true, true, false, true, false] with
  | true => match okSt 58 L11_0_s L11_0_b σ with
    | true => g (stringOf (Tr.val .undef σ.slots)) (intOf (Tr.val .undef (Tr.lft (Tr.rgt (Tr.lft (Tr.rgt σ.slots)))))) (intOf (Tr.val .undef (Tr.lft (Tr.rgt (Tr.rgt (Tr.lft σ.slots)))))) (fun v => K (.exit 0) ⟨58, Tr.of (nthD .undef [.str (stringOf (Tr.val .undef σ.slots)), .undef, .undef, .undef, .undef, .undef, .undef, .undef, .undef, .undef, .undef, .undef, .undef, .undef, .undef, .undef, .undef, .undef, .undef, .undef, .int .i64 (intOf (Tr.val .undef (Tr.lft (Tr.rgt (Tr.lft (Tr.rgt σ.slots)))))), .int .i64 v]) 6, Tr.of (nthD [] []) 6⟩)
    | false => lf p σ K
  | false => lf p σ K
theorem L11_0_d (k : Nat) (κ : Res → Option Res) (h : ∀ (p0 : ByteArray) (p1 : Int) (p2 : Int) (K : Cont), (ev Try.prog cfg k).loop 11 0 κ [true, true, false, true, false] ⟨58, Tr.of (nthD .undef [.str p0, .undef, .undef, .undef, .undef, .undef, .undef, .undef, .undef, .undef, .undef, .undef, .undef, .undef, .undef, .undef, .undef, .undef, .undef, .undef, .int .i64 p1, .int .i64 p2]) 6, Tr.of (nthD [] []) 6⟩ K = L11_0 k (fun x => κ ((.bool x, []) : Res)) p0 p1 p2 (fun v => K (.exit 0) ⟨58, Tr.of (nthD .undef [.str p0, .undef, .undef, .undef, .undef, .undef, .undef, .undef, .undef, .undef, .undef, .undef, .undef, .undef, .undef, .undef, .undef, .undef, .undef, .undef, .int .i64 p1, .int .i64 v]) 6, Tr.of (nthD [] []) 6⟩)) : L11_0_m (L11_0 k (fun x => κ ((.bool x, []) : Res))) ((ev Try.prog cfg k).loop 11 0 κ) = (ev Try.prog cfg k).loop 11 0 κ := by
  funext p σ K
  unfold L11_0_m
  split
  · rename_i hp
    split
    · rename_i hs
      have e : mkSt 58 L11_0_s L11_0_b σ = ⟨58, Tr.of (nthD .undef [.str (stringOf (Tr.val .undef σ.slots)), .undef, .undef, .undef, .undef, .undef, .undef, .undef, .undef, .undef, .undef, .undef, .undef, .undef, .undef, .undef, .undef, .undef, .undef, .undef, .int .i64 (intOf (Tr.val .undef (Tr.lft (Tr.rgt (Tr.lft (Tr.rgt σ.slots)))))), .int .i64 (intOf (Tr.val .undef (Tr.lft (Tr.rgt (Tr.rgt (Tr.lft σ.slots))))))]) 6, Tr.of (nthD [] []) 6⟩ := by kernel_rfl
      rw [pathEq_eq hp]
      exact (h (stringOf (Tr.val .undef σ.slots)) (intOf (Tr.val .undef (Tr.lft (Tr.rgt (Tr.lft (Tr.rgt σ.slots)))))) (intOf (Tr.val .undef (Tr.lft (Tr.rgt (Tr.rgt (Tr.lft σ.slots)))))) K).symm.trans (congrArg (fun s => (ev Try.prog cfg k).loop 11 0 κ [true, true, false, true, false] s K) (e.symm.trans (okSt_eq hs).symm))
    · rfl
  · rfl
theorem L11_0_k (gF19 : tF19) (gL11_0 : tL11_0) (cf : CallF) (lf : LoopF) (κ : Res → Option Res) (p0 : ByteArray) (p1 : Int) (p2 : Int) (K : Cont) : evLp Try.prog cfg (F19_m gF19 cf) (L11_0_m gL11_0 lf) 11 0 κ [true, true, false, true, false] ⟨58, Tr.of (nthD .undef [.str p0, .undef, .undef, .undef, .undef, .undef, .undef, .undef, .undef, .undef, .undef, .undef, .undef, .undef, .undef, .undef, .undef, .undef, .undef, .undef, .int .i64 p1, .int .i64 p2]) 6, Tr.of (nthD [] []) 6⟩ K = L11_0_B gF19 gL11_0 (fun x => κ ((.bool x, []) : Res)) p0 p1 p2 (fun v => K (.exit 0) ⟨58, Tr.of (nthD .undef [.str p0, .undef, .undef, .undef, .undef, .undef, .undef, .undef, .undef, .undef, .undef, .undef, .undef, .undef, .undef, .undef, .undef, .undef, .undef, .undef, .int .i64 p1, .int .i64 v]) 6, Tr.of (nthD [] []) 6⟩) := by
  kernel_rfl
theorem L11_0_ev : ∀ (k : Nat) (κ : Res → Option Res) (p0 : ByteArray) (p1 : Int) (p2 : Int) (K : Cont), (ev Try.prog cfg k).loop 11 0 κ [true, true, false, true, false] ⟨58, Tr.of (nthD .undef [.str p0, .undef, .undef, .undef, .undef, .undef, .undef, .undef, .undef, .undef, .undef, .undef, .undef, .undef, .undef, .undef, .undef, .undef, .undef, .undef, .int .i64 p1, .int .i64 p2]) 6, Tr.of (nthD [] []) 6⟩ K = L11_0 k (fun x => κ ((.bool x, []) : Res)) p0 p1 p2 (fun v => K (.exit 0) ⟨58, Tr.of (nthD .undef [.str p0, .undef, .undef, .undef, .undef, .undef, .undef, .undef, .undef, .undef, .undef, .undef, .undef, .undef, .undef, .undef, .undef, .undef, .undef, .undef, .int .i64 p1, .int .i64 v]) 6, Tr.of (nthD [] []) 6⟩) := by
  intro k κ
  induction k with
  | zero => intro p0 p1 p2 K; rfl
  | succ k ih =>
    intro p0 p1 p2 K
    rw [ev_loop, ← F19_d k (F19_ev k), ← L11_0_d k κ ih]
    exact L11_0_k _ _ _ _ κ p0 p1 p2 K
def F11_B (gF19 : tF19) (gL11_0 : tL11_0) (gL11_1 : tL11_1) (a0 : ByteArray) (κ : Bool → Option Res) : Option Res :=
  chk1 (if (a0.toList == (⟨#[]⟩ : ByteArray).toList) = true then
    (chk2 (κ false))
   else
    (chk2 (if decide ((a0.size : Int) > (16 : Int)) = true then
      (chk1 (κ false))
     else
      (if (true && (true && decide ((0 : Int) < (a0.size : Int)))) = true then
       (chk1 (gF19 (byteAt a0 (0 : Int)) fun x1 =>
        chk1 (if (!x1) = true then
          (κ false)
         else
          (chk1 (gL11_0 a0 (a0.size : Int) (0 : Int) fun v3 =>
           chk3 (gL11_1 a0 (IntKind.wrap .i64 ((IntKind.wrap .i64 ((44 : Int) - (a0.size : Int))) - (1 : Int))) (0 : Int) fun v4 =>
            κ true))))))
      else
       (none)))))
/-- lamplighter/schema.Name -/
def F11 : Nat → ByteArray → (Bool → Option Res) → Option Res
  | 0, _, _ => none
  | k + 1, a0, κ => F11_B (F19 k) (L11_0 k κ) (L11_1 k κ) a0 κ
def F11_s : List SC := [.one .str]
def F11_b : List (List SC) := []
def F11_m (g : ByteArray → (Bool → Option Res) → Option Res) (cf : CallF) : CallF := fun f args lent κ => match Nat.beq f 11 with
  | true => match okC F11_s args && okB F11_b lent with
    | true => g (stringOf (nth args 0)) (fun x => κ ((.bool x, []) : Res))
    | false => cf f args lent κ
  | false => cf f args lent κ
theorem F11_d (k : Nat) (h : ∀ (a0 : ByteArray) (κ : Res → Option Res), (ev Try.prog cfg k).call 11 [.str a0] [] κ = F11 k a0 (fun x => κ ((.bool x, []) : Res))) : F11_m (F11 k) (ev Try.prog cfg k).call = (ev Try.prog cfg k).call := by
  funext f args lent κ
  unfold F11_m
  split
  · rename_i hp
    split
    · rename_i hs
      rw [Bool.and_eq_true] at hs
      have e : mkC F11_s 0 args = [.str (stringOf (nth args 0))] := by kernel_rfl
      have e' : mkB F11_b 0 lent = [] := by kernel_rfl
      obtain rfl := Nat.eq_of_beq_eq_true hp
      exact (h (stringOf (nth args 0)) κ).symm.trans (cong2 (fun a l => (ev Try.prog cfg k).call 11 a l κ) (e.symm.trans (okC_eq hs.1).symm) (e'.symm.trans (okB_eq hs.2).symm))
    · rfl
  · rfl
theorem F11_k (gF19 : tF19) (gL11_0 : tL11_0) (gL11_1 : tL11_1) (cf : CallF) (lf : LoopF) (a0 : ByteArray) (κ : Res → Option Res) : evFn Try.prog cfg (F19_m gF19 cf) (L11_0_m gL11_0 (L11_1_m gL11_1 lf)) 11 [.str a0] [] κ = F11_B gF19 gL11_0 gL11_1 a0 (fun x => κ ((.bool x, []) : Res)) := by
  kernel_rfl
theorem F11_ev : ∀ (k : Nat) (a0 : ByteArray) (κ : Res → Option Res), (ev Try.prog cfg k).call 11 [.str a0] [] κ = F11 k a0 (fun x => κ ((.bool x, []) : Res)) := by
  intro k
  induction k with
  | zero => intros; rfl
  | succ k ih =>
    intro a0 κ
    refine (ev_call' Try.prog cfg k 11 0 _ _ κ (by rfl)).trans ?_
    rw [← F19_d k (F19_ev k), ← L11_0_d k κ (L11_0_ev k κ), ← L11_1_d k κ (L11_1_ev k κ)]
    exact F11_k _ _ _ _ _ a0 κ
def F21_B  (a0 : (ByteArray × Int)) (b0_0 : ByteArray) (b0_1 : Int) (κ : Bool × ByteArray × Int → Option Res) : Option Res :=
  chk2 (κ ((a0.1.toList == b0_0.toList), (b0_0, b0_1)))
/-- lamplighter/schema.fields$1 -/
def F21 : Nat → (ByteArray × Int) → ByteArray → Int → (Bool × ByteArray × Int → Option Res) → Option Res
  | 0, _, _, _, _ => none
  | k + 1, a0, b0_0, b0_1, κ => F21_B  a0 b0_0 b0_1 κ
def F21_s : List SC := [.agg [.str, .int .i64], .one (.ref 0 0)]
def F21_b : List (List SC) := [[.one .str, .one (.int .i64)]]
def F21_m (g : (ByteArray × Int) → ByteArray → Int → (Bool × ByteArray × Int → Option Res) → Option Res) (cf : CallF) : CallF := fun f args lent κ => match Nat.beq f 21 with
  | true => match okC F21_s args && okB F21_b lent with
    | true => g ((stringOf (nth (aggOf (nth args 0)) 0)), (intOf (nth (aggOf (nth args 0)) 1))) (stringOf (nth (nthB lent 0) 0)) (intOf (nth (nthB lent 0) 1)) (fun x => κ ((.bool x.1, [[.str x.2.1, .int .i64 x.2.2]]) : Res))
    | false => cf f args lent κ
  | false => cf f args lent κ
theorem F21_d (k : Nat) (h : ∀ (a0 : (ByteArray × Int)) (b0_0 : ByteArray) (b0_1 : Int) (κ : Res → Option Res), (ev Try.prog cfg k).call 21 [.agg [.str a0.1, .int .i64 a0.2], .ref 0 0] [[.str b0_0, .int .i64 b0_1]] κ = F21 k a0 b0_0 b0_1 (fun x => κ ((.bool x.1, [[.str x.2.1, .int .i64 x.2.2]]) : Res))) : F21_m (F21 k) (ev Try.prog cfg k).call = (ev Try.prog cfg k).call := by
  funext f args lent κ
  unfold F21_m
  split
  · rename_i hp
    split
    · rename_i hs
      rw [Bool.and_eq_true] at hs
      have e : mkC F21_s 0 args = [.agg [.str (stringOf (nth (aggOf (nth args 0)) 0)), .int .i64 (intOf (nth (aggOf (nth args 0)) 1))], .ref 0 0] := by kernel_rfl
      have e' : mkB F21_b 0 lent = [[.str (stringOf (nth (nthB lent 0) 0)), .int .i64 (intOf (nth (nthB lent 0) 1))]] := by kernel_rfl
      obtain rfl := Nat.eq_of_beq_eq_true hp
      exact (h ((stringOf (nth (aggOf (nth args 0)) 0)), (intOf (nth (aggOf (nth args 0)) 1))) (stringOf (nth (nthB lent 0) 0)) (intOf (nth (nthB lent 0) 1)) κ).symm.trans (cong2 (fun a l => (ev Try.prog cfg k).call 21 a l κ) (e.symm.trans (okC_eq hs.1).symm) (e'.symm.trans (okB_eq hs.2).symm))
    · rfl
  · rfl
theorem F21_k  (cf : CallF) (lf : LoopF) (a0 : (ByteArray × Int)) (b0_0 : ByteArray) (b0_1 : Int) (κ : Res → Option Res) : evFn Try.prog cfg cf lf 21 [.agg [.str a0.1, .int .i64 a0.2], .ref 0 0] [[.str b0_0, .int .i64 b0_1]] κ = F21_B  a0 b0_0 b0_1 (fun x => κ ((.bool x.1, [[.str x.2.1, .int .i64 x.2.2]]) : Res)) := by
  kernel_rfl
theorem F21_ev : ∀ (k : Nat) (a0 : (ByteArray × Int)) (b0_0 : ByteArray) (b0_1 : Int) (κ : Res → Option Res), (ev Try.prog cfg k).call 21 [.agg [.str a0.1, .int .i64 a0.2], .ref 0 0] [[.str b0_0, .int .i64 b0_1]] κ = F21 k a0 b0_0 b0_1 (fun x => κ ((.bool x.1, [[.str x.2.1, .int .i64 x.2.2]]) : Res)) := by
  intro k
  induction k with
  | zero => intros; rfl
  | succ k ih =>
    intro a0 b0_0 b0_1 κ
    refine (ev_call' Try.prog cfg k 21 1 _ _ κ (by rfl)).trans ?_
    skip
    exact F21_k  _ _ a0 b0_0 b0_1 κ
def L28_0_B (gF21 : tF21) (gL28_0 : tL28_0) (κ : Int × ByteArray × Int → Option Res) (p0 : (List (ByteArray × Int))) (p1 : Int) (p2 : Int) (p3 : ByteArray) (p4 : Int) (K : Int × ByteArray × Int → Option Res) : Option Res :=
  chk1 (if decide (p2 < p1) = true then
    (if (true && (decide ((0 : Int) ≤ p2) && decide (p2 < (p0.length : Int)))) = true then
     (chk1 (gF21 (p0.getD p2.toNat ((⟨#[]⟩ : ByteArray), (0 : Int))) p3 p4 fun x1 =>
      chk1 (if x1.1 = true then
        (κ (p2, (x1.2.1, x1.2.2)))
       else
        (chk1 (gL28_0 p0 p1 (IntKind.wrap .i64 (p2 + (1 : Int))) x1.2.1 x1.2.2 K)))))
    else
     (none))
   else
    (K (p2, (p3, p4))))
def L28_0 : Nat → (Int × ByteArray × Int → Option Res) → (List (ByteArray × Int)) → Int → Int → ByteArray → Int → (Int × ByteArray × Int → Option Res) → Option Res
  | 0, _, _, _, _, _, _, _ => none
  | k + 1, κ, p0, p1, p2, p3, p4, K => L28_0_B (F21 k) (fun p0 p1 p2 p3 p4 K => L28_0 k κ p0 p1 p2 p3 p4 K) κ p0 p1 p2 p3 p4 K
def L28_0_s : Tr SC := Tr.of (nthD (.one .undef) [.one (.list (.pair .str (.int .i64)) .no), .fn 21 [.ref 19 0], .one .undef, .one .undef, .one .undef, .one .undef, .one .undef, .one (.int .i64), .one (.int .i64)]) 5
def L28_0_b : Tr (List SC) := Tr.of (nthD [] [[], [], [], [], [], [], [], [], [], [], [], [], [], [], [], [], [], [], [], [.one .str, .one (.int .i64)]]) 5
def L28_0_m (g : (List (ByteArray × Int)) → Int → Int → ByteArray → Int → (Int × ByteArray × Int → Option Res) → Option Res) (lf : LoopF) : LoopF := fun p σ K => match pathEq p [true, false, true, false] with
  | true => match okSt 19 L28_0_s L28_0_b σ with
    | true => g (listOf (.pair .str (.int .i64)) (Tr.val .undef σ.slots)) (intOf (Tr.val .undef (Tr.lft (Tr.lft (Tr.lft σ.slots))))) (intOf (Tr.val .undef (Tr.lft (Tr.lft (Tr.rgt σ.slots))))) (stringOf (nth (Tr.val [] (Tr.lft (Tr.rgt (Tr.lft (Tr.lft σ.boxes))))) 0)) (intOf (nth (Tr.val [] (Tr.lft (Tr.rgt (Tr.lft (Tr.lft σ.boxes))))) 1)) (fun v => K (.exit 0) ⟨19, Tr.of (nthD .undef [.list (.pair .str (.int .i64)) (listOf (.pair .str (.int .i64)) (Tr.val .undef σ.slots)) .no, .fn 21 [.ref 19 0], .undef, .undef, .undef, .undef, .undef, .int .i64 (intOf (Tr.val .undef (Tr.lft (Tr.lft (Tr.lft σ.slots))))), .int .i64 v.1]) 5, Tr.of (nthD [] [[], [], [], [], [], [], [], [], [], [], [], [], [], [], [], [], [], [], [], [.str v.2.1, .int .i64 v.2.2]]) 5⟩)
    | false => lf p σ K
  | false => lf p σ K
theorem L28_0_d (k : Nat) (κ : Res → Option Res) (h : ∀ (p0 : (List (ByteArray × Int))) (p1 : Int) (p2 : Int) (p3 : ByteArray) (p4 : Int) (K : Cont), (ev Try.prog cfg k).loop 28 1 κ [true, false, true, false] ⟨19, Tr.of (nthD .undef [.list (.pair .str (.int .i64)) p0 .no, .fn 21 [.ref 19 0], .undef, .undef, .undef, .undef, .undef, .int .i64 p1, .int .i64 p2]) 5, Tr.of (nthD [] [[], [], [], [], [], [], [], [], [], [], [], [], [], [], [], [], [], [], [], [.str p3, .int .i64 p4]]) 5⟩ K = L28_0 k (fun x => κ ((.int .i64 x.1, [[.str x.2.1, .int .i64 x.2.2]]) : Res)) p0 p1 p2 p3 p4 (fun v => K (.exit 0) ⟨19, Tr.of (nthD .undef [.list (.pair .str (.int .i64)) p0 .no, .fn 21 [.ref 19 0], .undef, .undef, .undef, .undef, .undef, .int .i64 p1, .int .i64 v.1]) 5, Tr.of (nthD [] [[], [], [], [], [], [], [], [], [], [], [], [], [], [], [], [], [], [], [], [.str v.2.1, .int .i64 v.2.2]]) 5⟩)) : L28_0_m (L28_0 k (fun x => κ ((.int .i64 x.1, [[.str x.2.1, .int .i64 x.2.2]]) : Res))) ((ev Try.prog cfg k).loop 28 1 κ) = (ev Try.prog cfg k).loop 28 1 κ := by
  funext p σ K
  unfold L28_0_m
  split
  · rename_i hp
    split
    · rename_i hs
      have e : mkSt 19 L28_0_s L28_0_b σ = ⟨19, Tr.of (nthD .undef [.list (.pair .str (.int .i64)) (listOf (.pair .str (.int .i64)) (Tr.val .undef σ.slots)) .no, .fn 21 [.ref 19 0], .undef, .undef, .undef, .undef, .undef, .int .i64 (intOf (Tr.val .undef (Tr.lft (Tr.lft (Tr.lft σ.slots))))), .int .i64 (intOf (Tr.val .undef (Tr.lft (Tr.lft (Tr.rgt σ.slots)))))]) 5, Tr.of (nthD [] [[], [], [], [], [], [], [], [], [], [], [], [], [], [], [], [], [], [], [], [.str (stringOf (nth (Tr.val [] (Tr.lft (Tr.rgt (Tr.lft (Tr.lft σ.boxes))))) 0)), .int .i64 (intOf (nth (Tr.val [] (Tr.lft (Tr.rgt (Tr.lft (Tr.lft σ.boxes))))) 1))]]) 5⟩ := by kernel_rfl
      rw [pathEq_eq hp]
      exact (h (listOf (.pair .str (.int .i64)) (Tr.val .undef σ.slots)) (intOf (Tr.val .undef (Tr.lft (Tr.lft (Tr.lft σ.slots))))) (intOf (Tr.val .undef (Tr.lft (Tr.lft (Tr.rgt σ.slots))))) (stringOf (nth (Tr.val [] (Tr.lft (Tr.rgt (Tr.lft (Tr.lft σ.boxes))))) 0)) (intOf (nth (Tr.val [] (Tr.lft (Tr.rgt (Tr.lft (Tr.lft σ.boxes))))) 1)) K).symm.trans (congrArg (fun s => (ev Try.prog cfg k).loop 28 1 κ [true, false, true, false] s K) (e.symm.trans (okSt_eq hs).symm))
    · rfl
  · rfl
theorem L28_0_k (gF21 : tF21) (gL28_0 : tL28_0) (cf : CallF) (lf : LoopF) (κ : Res → Option Res) (p0 : (List (ByteArray × Int))) (p1 : Int) (p2 : Int) (p3 : ByteArray) (p4 : Int) (K : Cont) : evLp Try.prog cfg (F21_m gF21 cf) (L28_0_m gL28_0 lf) 28 1 κ [true, false, true, false] ⟨19, Tr.of (nthD .undef [.list (.pair .str (.int .i64)) p0 .no, .fn 21 [.ref 19 0], .undef, .undef, .undef, .undef, .undef, .int .i64 p1, .int .i64 p2]) 5, Tr.of (nthD [] [[], [], [], [], [], [], [], [], [], [], [], [], [], [], [], [], [], [], [], [.str p3, .int .i64 p4]]) 5⟩ K = L28_0_B gF21 gL28_0 (fun x => κ ((.int .i64 x.1, [[.str x.2.1, .int .i64 x.2.2]]) : Res)) p0 p1 p2 p3 p4 (fun v => K (.exit 0) ⟨19, Tr.of (nthD .undef [.list (.pair .str (.int .i64)) p0 .no, .fn 21 [.ref 19 0], .undef, .undef, .undef, .undef, .undef, .int .i64 p1, .int .i64 v.1]) 5, Tr.of (nthD [] [[], [], [], [], [], [], [], [], [], [], [], [], [], [], [], [], [], [], [], [.str v.2.1, .int .i64 v.2.2]]) 5⟩) := by
  kernel_rfl
theorem L28_0_ev : ∀ (k : Nat) (κ : Res → Option Res) (p0 : (List (ByteArray × Int))) (p1 : Int) (p2 : Int) (p3 : ByteArray) (p4 : Int) (K : Cont), (ev Try.prog cfg k).loop 28 1 κ [true, false, true, false] ⟨19, Tr.of (nthD .undef [.list (.pair .str (.int .i64)) p0 .no, .fn 21 [.ref 19 0], .undef, .undef, .undef, .undef, .undef, .int .i64 p1, .int .i64 p2]) 5, Tr.of (nthD [] [[], [], [], [], [], [], [], [], [], [], [], [], [], [], [], [], [], [], [], [.str p3, .int .i64 p4]]) 5⟩ K = L28_0 k (fun x => κ ((.int .i64 x.1, [[.str x.2.1, .int .i64 x.2.2]]) : Res)) p0 p1 p2 p3 p4 (fun v => K (.exit 0) ⟨19, Tr.of (nthD .undef [.list (.pair .str (.int .i64)) p0 .no, .fn 21 [.ref 19 0], .undef, .undef, .undef, .undef, .undef, .int .i64 p1, .int .i64 v.1]) 5, Tr.of (nthD [] [[], [], [], [], [], [], [], [], [], [], [], [], [], [], [], [], [], [], [], [.str v.2.1, .int .i64 v.2.2]]) 5⟩) := by
  intro k κ
  induction k with
  | zero => intro p0 p1 p2 p3 p4 K; rfl
  | succ k ih =>
    intro p0 p1 p2 p3 p4 K
    rw [ev_loop, ← F21_d k (F21_ev k), ← L28_0_d k κ ih]
    exact L28_0_k _ _ _ _ κ p0 p1 p2 p3 p4 K
def F28_B (gF21 : tF21) (gL28_0 : tL28_0) (a0 : (List (ByteArray × Int))) (b0_0 : ByteArray) (b0_1 : Int) (κ : Int × ByteArray × Int → Option Res) : Option Res :=
  chk1 (gL28_0 a0 (a0.length : Int) (0 : Int) b0_0 b0_1 fun v2 =>
   κ ((-1 : Int), (v2.2.1, v2.2.2)))
/-- slices.IndexFunc[[]lamplighter/api.Field,lamplighter/api.Field] -/
def F28 : Nat → (List (ByteArray × Int)) → ByteArray → Int → (Int × ByteArray × Int → Option Res) → Option Res
  | 0, _, _, _, _ => none
  | k + 1, a0, b0_0, b0_1, κ => F28_B (F21 k) (L28_0 k κ) a0 b0_0 b0_1 κ
def F28_s : List SC := [.one (.list (.pair .str (.int .i64)) .no), .fn 21 [.ref 0 0]]
def F28_b : List (List SC) := [[.one .str, .one (.int .i64)]]
def F28_m (g : (List (ByteArray × Int)) → ByteArray → Int → (Int × ByteArray × Int → Option Res) → Option Res) (cf : CallF) : CallF := fun f args lent κ => match Nat.beq f 28 with
  | true => match okC F28_s args && okB F28_b lent with
    | true => g (listOf (.pair .str (.int .i64)) (nth args 0)) (stringOf (nth (nthB lent 0) 0)) (intOf (nth (nthB lent 0) 1)) (fun x => κ ((.int .i64 x.1, [[.str x.2.1, .int .i64 x.2.2]]) : Res))
    | false => cf f args lent κ
  | false => cf f args lent κ
theorem F28_d (k : Nat) (h : ∀ (a0 : (List (ByteArray × Int))) (b0_0 : ByteArray) (b0_1 : Int) (κ : Res → Option Res), (ev Try.prog cfg k).call 28 [.list (.pair .str (.int .i64)) a0 .no, .fn 21 [.ref 0 0]] [[.str b0_0, .int .i64 b0_1]] κ = F28 k a0 b0_0 b0_1 (fun x => κ ((.int .i64 x.1, [[.str x.2.1, .int .i64 x.2.2]]) : Res))) : F28_m (F28 k) (ev Try.prog cfg k).call = (ev Try.prog cfg k).call := by
  funext f args lent κ
  unfold F28_m
  split
  · rename_i hp
    split
    · rename_i hs
      rw [Bool.and_eq_true] at hs
      have e : mkC F28_s 0 args = [.list (.pair .str (.int .i64)) (listOf (.pair .str (.int .i64)) (nth args 0)) .no, .fn 21 [.ref 0 0]] := by kernel_rfl
      have e' : mkB F28_b 0 lent = [[.str (stringOf (nth (nthB lent 0) 0)), .int .i64 (intOf (nth (nthB lent 0) 1))]] := by kernel_rfl
      obtain rfl := Nat.eq_of_beq_eq_true hp
      exact (h (listOf (.pair .str (.int .i64)) (nth args 0)) (stringOf (nth (nthB lent 0) 0)) (intOf (nth (nthB lent 0) 1)) κ).symm.trans (cong2 (fun a l => (ev Try.prog cfg k).call 28 a l κ) (e.symm.trans (okC_eq hs.1).symm) (e'.symm.trans (okB_eq hs.2).symm))
    · rfl
  · rfl
theorem F28_k (gF21 : tF21) (gL28_0 : tL28_0) (cf : CallF) (lf : LoopF) (a0 : (List (ByteArray × Int))) (b0_0 : ByteArray) (b0_1 : Int) (κ : Res → Option Res) : evFn Try.prog cfg (F21_m gF21 cf) (L28_0_m gL28_0 lf) 28 [.list (.pair .str (.int .i64)) a0 .no, .fn 21 [.ref 0 0]] [[.str b0_0, .int .i64 b0_1]] κ = F28_B gF21 gL28_0 a0 b0_0 b0_1 (fun x => κ ((.int .i64 x.1, [[.str x.2.1, .int .i64 x.2.2]]) : Res)) := by
  kernel_rfl
theorem F28_ev : ∀ (k : Nat) (a0 : (List (ByteArray × Int))) (b0_0 : ByteArray) (b0_1 : Int) (κ : Res → Option Res), (ev Try.prog cfg k).call 28 [.list (.pair .str (.int .i64)) a0 .no, .fn 21 [.ref 0 0]] [[.str b0_0, .int .i64 b0_1]] κ = F28 k a0 b0_0 b0_1 (fun x => κ ((.int .i64 x.1, [[.str x.2.1, .int .i64 x.2.2]]) : Res)) := by
  intro k
  induction k with
  | zero => intros; rfl
  | succ k ih =>
    intro a0 b0_0 b0_1 κ
    refine (ev_call' Try.prog cfg k 28 1 _ _ κ (by rfl)).trans ?_
    rw [← F21_d k (F21_ev k), ← L28_0_d k κ (L28_0_ev k κ)]
    exact F28_k _ _ _ _ a0 b0_0 b0_1 κ
def F20_B (gF28 : tF28) (a0 : (List (ByteArray × Int))) (b0_0 : ByteArray) (b0_1 : Int) (κ : Bool × ByteArray × Int → Option Res) : Option Res :=
  chk1 (gF28 a0 b0_0 b0_1 fun x1 =>
   chk2 (κ (decide (x1.1 ≥ (0 : Int)), (x1.2.1, x1.2.2))))
/-- slices.ContainsFunc[[]lamplighter/api.Field,lamplighter/api.Field] -/
def F20 : Nat → (List (ByteArray × Int)) → ByteArray → Int → (Bool × ByteArray × Int → Option Res) → Option Res
  | 0, _, _, _, _ => none
  | k + 1, a0, b0_0, b0_1, κ => F20_B (F28 k) a0 b0_0 b0_1 κ
def F20_s : List SC := [.one (.list (.pair .str (.int .i64)) .no), .fn 21 [.ref 0 0]]
def F20_b : List (List SC) := [[.one .str, .one (.int .i64)]]
def F20_m (g : (List (ByteArray × Int)) → ByteArray → Int → (Bool × ByteArray × Int → Option Res) → Option Res) (cf : CallF) : CallF := fun f args lent κ => match Nat.beq f 20 with
  | true => match okC F20_s args && okB F20_b lent with
    | true => g (listOf (.pair .str (.int .i64)) (nth args 0)) (stringOf (nth (nthB lent 0) 0)) (intOf (nth (nthB lent 0) 1)) (fun x => κ ((.bool x.1, [[.str x.2.1, .int .i64 x.2.2]]) : Res))
    | false => cf f args lent κ
  | false => cf f args lent κ
theorem F20_d (k : Nat) (h : ∀ (a0 : (List (ByteArray × Int))) (b0_0 : ByteArray) (b0_1 : Int) (κ : Res → Option Res), (ev Try.prog cfg k).call 20 [.list (.pair .str (.int .i64)) a0 .no, .fn 21 [.ref 0 0]] [[.str b0_0, .int .i64 b0_1]] κ = F20 k a0 b0_0 b0_1 (fun x => κ ((.bool x.1, [[.str x.2.1, .int .i64 x.2.2]]) : Res))) : F20_m (F20 k) (ev Try.prog cfg k).call = (ev Try.prog cfg k).call := by
  funext f args lent κ
  unfold F20_m
  split
  · rename_i hp
    split
    · rename_i hs
      rw [Bool.and_eq_true] at hs
      have e : mkC F20_s 0 args = [.list (.pair .str (.int .i64)) (listOf (.pair .str (.int .i64)) (nth args 0)) .no, .fn 21 [.ref 0 0]] := by kernel_rfl
      have e' : mkB F20_b 0 lent = [[.str (stringOf (nth (nthB lent 0) 0)), .int .i64 (intOf (nth (nthB lent 0) 1))]] := by kernel_rfl
      obtain rfl := Nat.eq_of_beq_eq_true hp
      exact (h (listOf (.pair .str (.int .i64)) (nth args 0)) (stringOf (nth (nthB lent 0) 0)) (intOf (nth (nthB lent 0) 1)) κ).symm.trans (cong2 (fun a l => (ev Try.prog cfg k).call 20 a l κ) (e.symm.trans (okC_eq hs.1).symm) (e'.symm.trans (okB_eq hs.2).symm))
    · rfl
  · rfl
theorem F20_k (gF28 : tF28) (cf : CallF) (lf : LoopF) (a0 : (List (ByteArray × Int))) (b0_0 : ByteArray) (b0_1 : Int) (κ : Res → Option Res) : evFn Try.prog cfg (F28_m gF28 cf) lf 20 [.list (.pair .str (.int .i64)) a0 .no, .fn 21 [.ref 0 0]] [[.str b0_0, .int .i64 b0_1]] κ = F20_B gF28 a0 b0_0 b0_1 (fun x => κ ((.bool x.1, [[.str x.2.1, .int .i64 x.2.2]]) : Res)) := by
  kernel_rfl
theorem F20_ev : ∀ (k : Nat) (a0 : (List (ByteArray × Int))) (b0_0 : ByteArray) (b0_1 : Int) (κ : Res → Option Res), (ev Try.prog cfg k).call 20 [.list (.pair .str (.int .i64)) a0 .no, .fn 21 [.ref 0 0]] [[.str b0_0, .int .i64 b0_1]] κ = F20 k a0 b0_0 b0_1 (fun x => κ ((.bool x.1, [[.str x.2.1, .int .i64 x.2.2]]) : Res)) := by
  intro k
  induction k with
  | zero => intros; rfl
  | succ k ih =>
    intro a0 b0_0 b0_1 κ
    refine (ev_call' Try.prog cfg k 20 1 _ _ κ (by rfl)).trans ?_
    rw [← F28_d k (F28_ev k)]
    exact F20_k _ _ _ a0 b0_0 b0_1 κ
def L12_0_B (gF11 : tF11) (gF20 : tF20) (gL12_0 : tL12_0) (κ : Bool → Option Res) (p0 : (List (ByteArray × Int))) (p1 : (List (ByteArray × Int))) (p2 : Int) (p3 : Int) (K : Int → Option Res) : Option Res :=
  chk1 (if decide (p3 < p2) = true then
    (if (true && (decide ((0 : Int) ≤ p3) && decide (p3 < (p1.length : Int)))) = true then
     (chk4 (gF11 ((p1.getD p3.toNat ((⟨#[]⟩ : ByteArray), (0 : Int))).1) fun x1 =>
      chk1 (if (!x1) = true then
        (chk2 (κ false))
       else
        (chk1 (if decide (((p1.getD p3.toNat ((⟨#[]⟩ : ByteArray), (0 : Int))).2) < (1 : Int)) = true then
          (chk1 (κ false))
         else
          (chk1 (if decide (((p1.getD p3.toNat ((⟨#[]⟩ : ByteArray), (0 : Int))).2) > (3 : Int)) = true then
            (κ false)
           else
            (if (true && (decide ((0 : Int) ≤ p3) && decide (p3 ≤ (p0.length : Int)))) = true then
             (chk2 (gF20 ((p0.take p3.toNat).drop (0 : Int).toNat) ((p1.getD p3.toNat ((⟨#[]⟩ : ByteArray), (0 : Int))).1) ((p1.getD p3.toNat ((⟨#[]⟩ : ByteArray), (0 : Int))).2) fun x2 =>
              chk1 (if x2.1 = true then
                (κ false)
               else
                (chk1 (gL12_0 p0 p1 p2 (IntKind.wrap .i64 (p3 + (1 : Int))) K)))))
            else
             (none)))))))))
    else
     (none))
   else
    (K p3))
def L12_0 : Nat → (Bool → Option Res) → (List (ByteArray × Int)) → (List (ByteArray × Int)) → Int → Int → (Int → Option Res) → Option Res
  | 0, _, _, _, _, _, _ => none
  | k + 1, κ, p0, p1, p2, p3, K => L12_0_B (F11 k) (F20 k) (fun p0 p1 p2 p3 K => L12_0 k κ p0 p1 p2 p3 K) κ p0 p1 p2 p3 K
def L12_0_s : Tr SC := Tr.of (nthD (.one .undef) [.one (.list (.pair .str (.int .i64)) .no), .one .undef, .one .undef, .one .undef, .one .undef, .one .undef, .one .undef, .one .undef, .one (.list (.pair .str (.int .i64)) .no), .one (.int .i64), .one (.int .i64)]) 6
def L12_0_b : Tr (List SC) := Tr.of (nthD [] []) 6
def L12_0_m (g : (List (ByteArray × Int)) → (List (ByteArray × Int)) → Int → Int → (Int → Option Res) → Option Res) (lf : LoopF) : LoopF := fun p σ K => match pathEq p [true, true, false, true, false] with
  | true => match okSt 35 L12_0_s L12_0_b σ with
    | true => g (listOf (.pair .str (.int .i64)) (Tr.val .undef σ.slots)) (listOf (.pair .str (.int .i64)) (Tr.val .undef (Tr.lft (Tr.lft (Tr.rgt σ.slots))))) (intOf (Tr.val .undef (Tr.lft (Tr.rgt (Tr.lft σ.slots))))) (intOf (Tr.val .undef (Tr.lft (Tr.rgt (Tr.rgt σ.slots))))) (fun v => K (.exit 0) ⟨35, Tr.of (nthD .undef [.list (.pair .str (.int .i64)) (listOf (.pair .str (.int .i64)) (Tr.val .undef σ.slots)) .no, .undef, .undef, .undef, .undef, .undef, .undef, .undef, .list (.pair .str (.int .i64)) (listOf (.pair .str (.int .i64)) (Tr.val .undef (Tr.lft (Tr.lft (Tr.rgt σ.slots))))) .no, .int .i64 (intOf (Tr.val .undef (Tr.lft (Tr.rgt (Tr.lft σ.slots))))), .int .i64 v]) 6, Tr.of (nthD [] []) 6⟩)
    | false => lf p σ K
  | false => lf p σ K
theorem L12_0_d (k : Nat) (κ : Res → Option Res) (h : ∀ (p0 : (List (ByteArray × Int))) (p1 : (List (ByteArray × Int))) (p2 : Int) (p3 : Int) (K : Cont), (ev Try.prog cfg k).loop 12 0 κ [true, true, false, true, false] ⟨35, Tr.of (nthD .undef [.list (.pair .str (.int .i64)) p0 .no, .undef, .undef, .undef, .undef, .undef, .undef, .undef, .list (.pair .str (.int .i64)) p1 .no, .int .i64 p2, .int .i64 p3]) 6, Tr.of (nthD [] []) 6⟩ K = L12_0 k (fun x => κ ((.bool x, []) : Res)) p0 p1 p2 p3 (fun v => K (.exit 0) ⟨35, Tr.of (nthD .undef [.list (.pair .str (.int .i64)) p0 .no, .undef, .undef, .undef, .undef, .undef, .undef, .undef, .list (.pair .str (.int .i64)) p1 .no, .int .i64 p2, .int .i64 v]) 6, Tr.of (nthD [] []) 6⟩)) : L12_0_m (L12_0 k (fun x => κ ((.bool x, []) : Res))) ((ev Try.prog cfg k).loop 12 0 κ) = (ev Try.prog cfg k).loop 12 0 κ := by
  funext p σ K
  unfold L12_0_m
  split
  · rename_i hp
    split
    · rename_i hs
      have e : mkSt 35 L12_0_s L12_0_b σ = ⟨35, Tr.of (nthD .undef [.list (.pair .str (.int .i64)) (listOf (.pair .str (.int .i64)) (Tr.val .undef σ.slots)) .no, .undef, .undef, .undef, .undef, .undef, .undef, .undef, .list (.pair .str (.int .i64)) (listOf (.pair .str (.int .i64)) (Tr.val .undef (Tr.lft (Tr.lft (Tr.rgt σ.slots))))) .no, .int .i64 (intOf (Tr.val .undef (Tr.lft (Tr.rgt (Tr.lft σ.slots))))), .int .i64 (intOf (Tr.val .undef (Tr.lft (Tr.rgt (Tr.rgt σ.slots)))))]) 6, Tr.of (nthD [] []) 6⟩ := by kernel_rfl
      rw [pathEq_eq hp]
      exact (h (listOf (.pair .str (.int .i64)) (Tr.val .undef σ.slots)) (listOf (.pair .str (.int .i64)) (Tr.val .undef (Tr.lft (Tr.lft (Tr.rgt σ.slots))))) (intOf (Tr.val .undef (Tr.lft (Tr.rgt (Tr.lft σ.slots))))) (intOf (Tr.val .undef (Tr.lft (Tr.rgt (Tr.rgt σ.slots))))) K).symm.trans (congrArg (fun s => (ev Try.prog cfg k).loop 12 0 κ [true, true, false, true, false] s K) (e.symm.trans (okSt_eq hs).symm))
    · rfl
  · rfl
theorem L12_0_k (gF11 : tF11) (gF20 : tF20) (gL12_0 : tL12_0) (cf : CallF) (lf : LoopF) (κ : Res → Option Res) (p0 : (List (ByteArray × Int))) (p1 : (List (ByteArray × Int))) (p2 : Int) (p3 : Int) (K : Cont) : evLp Try.prog cfg (F11_m gF11 (F20_m gF20 cf)) (L12_0_m gL12_0 lf) 12 0 κ [true, true, false, true, false] ⟨35, Tr.of (nthD .undef [.list (.pair .str (.int .i64)) p0 .no, .undef, .undef, .undef, .undef, .undef, .undef, .undef, .list (.pair .str (.int .i64)) p1 .no, .int .i64 p2, .int .i64 p3]) 6, Tr.of (nthD [] []) 6⟩ K = L12_0_B gF11 gF20 gL12_0 (fun x => κ ((.bool x, []) : Res)) p0 p1 p2 p3 (fun v => K (.exit 0) ⟨35, Tr.of (nthD .undef [.list (.pair .str (.int .i64)) p0 .no, .undef, .undef, .undef, .undef, .undef, .undef, .undef, .list (.pair .str (.int .i64)) p1 .no, .int .i64 p2, .int .i64 v]) 6, Tr.of (nthD [] []) 6⟩) := by
  kernel_rfl
theorem L12_0_ev : ∀ (k : Nat) (κ : Res → Option Res) (p0 : (List (ByteArray × Int))) (p1 : (List (ByteArray × Int))) (p2 : Int) (p3 : Int) (K : Cont), (ev Try.prog cfg k).loop 12 0 κ [true, true, false, true, false] ⟨35, Tr.of (nthD .undef [.list (.pair .str (.int .i64)) p0 .no, .undef, .undef, .undef, .undef, .undef, .undef, .undef, .list (.pair .str (.int .i64)) p1 .no, .int .i64 p2, .int .i64 p3]) 6, Tr.of (nthD [] []) 6⟩ K = L12_0 k (fun x => κ ((.bool x, []) : Res)) p0 p1 p2 p3 (fun v => K (.exit 0) ⟨35, Tr.of (nthD .undef [.list (.pair .str (.int .i64)) p0 .no, .undef, .undef, .undef, .undef, .undef, .undef, .undef, .list (.pair .str (.int .i64)) p1 .no, .int .i64 p2, .int .i64 v]) 6, Tr.of (nthD [] []) 6⟩) := by
  intro k κ
  induction k with
  | zero => intro p0 p1 p2 p3 K; rfl
  | succ k ih =>
    intro p0 p1 p2 p3 K
    rw [ev_loop, ← F11_d k (F11_ev k), ← F20_d k (F20_ev k), ← L12_0_d k κ ih]
    exact L12_0_k _ _ _ _ _ κ p0 p1 p2 p3 K
def F12_B (gF11 : tF11) (gF20 : tF20) (gL12_0 : tL12_0) (a0 : (List (ByteArray × Int))) (κ : Bool → Option Res) : Option Res :=
  chk2 (if decide ((a0.length : Int) > (8 : Int)) = true then
    (κ false)
   else
    (chk1 (gL12_0 a0 a0 (a0.length : Int) (0 : Int) fun v3 =>
     κ true)))
/-- lamplighter/schema.fields -/
def F12 : Nat → (List (ByteArray × Int)) → (Bool → Option Res) → Option Res
  | 0, _, _ => none
  | k + 1, a0, κ => F12_B (F11 k) (F20 k) (L12_0 k κ) a0 κ
def F12_s : List SC := [.one (.list (.pair .str (.int .i64)) .no)]
def F12_b : List (List SC) := []
def F12_m (g : (List (ByteArray × Int)) → (Bool → Option Res) → Option Res) (cf : CallF) : CallF := fun f args lent κ => match Nat.beq f 12 with
  | true => match okC F12_s args && okB F12_b lent with
    | true => g (listOf (.pair .str (.int .i64)) (nth args 0)) (fun x => κ ((.bool x, []) : Res))
    | false => cf f args lent κ
  | false => cf f args lent κ
theorem F12_d (k : Nat) (h : ∀ (a0 : (List (ByteArray × Int))) (κ : Res → Option Res), (ev Try.prog cfg k).call 12 [.list (.pair .str (.int .i64)) a0 .no] [] κ = F12 k a0 (fun x => κ ((.bool x, []) : Res))) : F12_m (F12 k) (ev Try.prog cfg k).call = (ev Try.prog cfg k).call := by
  funext f args lent κ
  unfold F12_m
  split
  · rename_i hp
    split
    · rename_i hs
      rw [Bool.and_eq_true] at hs
      have e : mkC F12_s 0 args = [.list (.pair .str (.int .i64)) (listOf (.pair .str (.int .i64)) (nth args 0)) .no] := by kernel_rfl
      have e' : mkB F12_b 0 lent = [] := by kernel_rfl
      obtain rfl := Nat.eq_of_beq_eq_true hp
      exact (h (listOf (.pair .str (.int .i64)) (nth args 0)) κ).symm.trans (cong2 (fun a l => (ev Try.prog cfg k).call 12 a l κ) (e.symm.trans (okC_eq hs.1).symm) (e'.symm.trans (okB_eq hs.2).symm))
    · rfl
  · rfl
theorem F12_k (gF11 : tF11) (gF20 : tF20) (gL12_0 : tL12_0) (cf : CallF) (lf : LoopF) (a0 : (List (ByteArray × Int))) (κ : Res → Option Res) : evFn Try.prog cfg (F11_m gF11 (F20_m gF20 cf)) (L12_0_m gL12_0 lf) 12 [.list (.pair .str (.int .i64)) a0 .no] [] κ = F12_B gF11 gF20 gL12_0 a0 (fun x => κ ((.bool x, []) : Res)) := by
  kernel_rfl
theorem F12_ev : ∀ (k : Nat) (a0 : (List (ByteArray × Int))) (κ : Res → Option Res), (ev Try.prog cfg k).call 12 [.list (.pair .str (.int .i64)) a0 .no] [] κ = F12 k a0 (fun x => κ ((.bool x, []) : Res)) := by
  intro k
  induction k with
  | zero => intros; rfl
  | succ k ih =>
    intro a0 κ
    refine (ev_call' Try.prog cfg k 12 0 _ _ κ (by rfl)).trans ?_
    rw [← F11_d k (F11_ev k), ← F20_d k (F20_ev k), ← L12_0_d k κ (L12_0_ev k κ)]
    exact F12_k _ _ _ _ _ a0 κ
def L13_0_B (gL13_0 : tL13_0) (κ : T4 × Bool × T5 → Option Res) (p0 : ByteArray) (p1 : Int) (p2 : Int) (p3 : ByteArray) (p4 : (List (ByteArray × Int))) (p5 : T5) (K : Int → Option Res) : Option Res :=
  chk1 (if decide (p2 < p1) = true then
    (if (true && (decide ((0 : Int) ≤ p2) && decide (p2 < (p5.length : Int)))) = true then
     (if decide (p2.toNat < p5.length) = true then
      (chk4 (if (((p5.getD p2.toNat ((⟨#[]⟩ : ByteArray), ([] : List (ByteArray × Int)))).1).toList == p0.toList) = true then
        (if (true && (true && decide (((p5.getD p2.toNat ((⟨#[]⟩ : ByteArray), ([] : List (ByteArray × Int)))).2).length ≤ 1000000))) = true then chk5 (κ ((p5.getD p2.toNat ((⟨#[]⟩ : ByteArray), ([] : List (ByteArray × Int)))), (true, p5))) else none)
       else
        (chk1 (gL13_0 p0 p1 (IntKind.wrap .i64 (p2 + (1 : Int))) p3 p4 p5 K))))
     else
      (none))
    else
     (none))
   else
    (K p2))
def L13_0 : Nat → (T4 × Bool × T5 → Option Res) → ByteArray → Int → Int → ByteArray → (List (ByteArray × Int)) → T5 → (Int → Option Res) → Option Res
  | 0, _, _, _, _, _, _, _, _ => none
  | k + 1, κ, p0, p1, p2, p3, p4, p5, K => L13_0_B (fun p0 p1 p2 p3 p4 p5 K => L13_0 k κ p0 p1 p2 p3 p4 p5 K) κ p0 p1 p2 p3 p4 p5 K
def L13_0_s : Tr SC := Tr.of (nthD (.one .undef) [.one .undef, .one .str, .one .undef, .one .undef, .one (.ref 4 0), .one .undef, .one .undef, .one .undef, .one .undef, .one .undef, .one .undef, .one .undef, .one .undef, .one .undef, .one (.alias (.c 32 0)), .one (.int .i64), .one (.int .i64)]) 6
def L13_0_b : Tr (List SC) := Tr.of (nthD [] [[], [], [], [], [.one .str, .one (.list (.pair .str (.int .i64)) (.own false false))], [], [], [], [], [], [], [], [], [], [], [], [], [], [], [], [], [], [], [], [], [], [], [], [], [], [], [], [.one (.list (.pair .str (.list (.pair .str (.int .i64)))) (.own false false))]]) 6
def L13_0_m (g : ByteArray → Int → Int → ByteArray → (List (ByteArray × Int)) → T5 → (Int → Option Res) → Option Res) (lf : LoopF) : LoopF := fun p σ K => match pathEq p [true, true, false, true, false] with
  | true => match okSt 32 L13_0_s L13_0_b σ with
    | true => g (stringOf (Tr.val .undef (Tr.lft σ.slots))) (intOf (Tr.val .undef (Tr.lft (Tr.lft (Tr.lft (Tr.lft σ.slots)))))) (intOf (Tr.val .undef (Tr.lft (Tr.lft (Tr.lft (Tr.rgt σ.slots)))))) (stringOf (nth (Tr.val [] (Tr.lft (Tr.rgt σ.boxes))) 0)) (listOf (.pair .str (.int .i64)) (nth (Tr.val [] (Tr.lft (Tr.rgt σ.boxes))) 1)) (listOf (.pair .str (.list (.pair .str (.int .i64)))) (nth (Tr.val [] (Tr.lft (Tr.lft (Tr.lft (Tr.lft (Tr.rgt σ.boxes)))))) 0)) (fun v => K (.exit 0) ⟨32, Tr.of (nthD .undef [.undef, .str (stringOf (Tr.val .undef (Tr.lft σ.slots))), .undef, .undef, .ref 4 0, .undef, .undef, .undef, .undef, .undef, .undef, .undef, .undef, .undef, .alias (.c 32 0), .int .i64 (intOf (Tr.val .undef (Tr.lft (Tr.lft (Tr.lft (Tr.lft σ.slots)))))), .int .i64 v]) 6, Tr.of (nthD [] [[], [], [], [], [.str (stringOf (nth (Tr.val [] (Tr.lft (Tr.rgt σ.boxes))) 0)), .list (.pair .str (.int .i64)) (listOf (.pair .str (.int .i64)) (nth (Tr.val [] (Tr.lft (Tr.rgt σ.boxes))) 1)) (.own false false)], [], [], [], [], [], [], [], [], [], [], [], [], [], [], [], [], [], [], [], [], [], [], [], [], [], [], [], [.list (.pair .str (.list (.pair .str (.int .i64)))) (listOf (.pair .str (.list (.pair .str (.int .i64)))) (nth (Tr.val [] (Tr.lft (Tr.lft (Tr.lft (Tr.lft (Tr.rgt σ.boxes)))))) 0)) (.own false false)]]) 6⟩)
    | false => lf p σ K
  | false => lf p σ K
theorem L13_0_d (k : Nat) (κ : Res → Option Res) (h : ∀ (p0 : ByteArray) (p1 : Int) (p2 : Int) (p3 : ByteArray) (p4 : (List (ByteArray × Int))) (p5 : T5) (K : Cont), (ev Try.prog cfg k).loop 13 1 κ [true, true, false, true, false] ⟨32, Tr.of (nthD .undef [.undef, .str p0, .undef, .undef, .ref 4 0, .undef, .undef, .undef, .undef, .undef, .undef, .undef, .undef, .undef, .alias (.c 32 0), .int .i64 p1, .int .i64 p2]) 6, Tr.of (nthD [] [[], [], [], [], [.str p3, .list (.pair .str (.int .i64)) p4 (.own false false)], [], [], [], [], [], [], [], [], [], [], [], [], [], [], [], [], [], [], [], [], [], [], [], [], [], [], [], [.list (.pair .str (.list (.pair .str (.int .i64)))) p5 (.own false false)]]) 6⟩ K = L13_0 k (fun x => κ ((.tup [.agg [.str x.1.1, .list (.pair .str (.int .i64)) x.1.2 .no], .bool x.2.1], [[.list (.pair .str (.list (.pair .str (.int .i64)))) x.2.2 (.own false false)]]) : Res)) p0 p1 p2 p3 p4 p5 (fun v => K (.exit 0) ⟨32, Tr.of (nthD .undef [.undef, .str p0, .undef, .undef, .ref 4 0, .undef, .undef, .undef, .undef, .undef, .undef, .undef, .undef, .undef, .alias (.c 32 0), .int .i64 p1, .int .i64 v]) 6, Tr.of (nthD [] [[], [], [], [], [.str p3, .list (.pair .str (.int .i64)) p4 (.own false false)], [], [], [], [], [], [], [], [], [], [], [], [], [], [], [], [], [], [], [], [], [], [], [], [], [], [], [], [.list (.pair .str (.list (.pair .str (.int .i64)))) p5 (.own false false)]]) 6⟩)) : L13_0_m (L13_0 k (fun x => κ ((.tup [.agg [.str x.1.1, .list (.pair .str (.int .i64)) x.1.2 .no], .bool x.2.1], [[.list (.pair .str (.list (.pair .str (.int .i64)))) x.2.2 (.own false false)]]) : Res))) ((ev Try.prog cfg k).loop 13 1 κ) = (ev Try.prog cfg k).loop 13 1 κ := by
  funext p σ K
  unfold L13_0_m
  split
  · rename_i hp
    split
    · rename_i hs
      have e : mkSt 32 L13_0_s L13_0_b σ = ⟨32, Tr.of (nthD .undef [.undef, .str (stringOf (Tr.val .undef (Tr.lft σ.slots))), .undef, .undef, .ref 4 0, .undef, .undef, .undef, .undef, .undef, .undef, .undef, .undef, .undef, .alias (.c 32 0), .int .i64 (intOf (Tr.val .undef (Tr.lft (Tr.lft (Tr.lft (Tr.lft σ.slots)))))), .int .i64 (intOf (Tr.val .undef (Tr.lft (Tr.lft (Tr.lft (Tr.rgt σ.slots))))))]) 6, Tr.of (nthD [] [[], [], [], [], [.str (stringOf (nth (Tr.val [] (Tr.lft (Tr.rgt σ.boxes))) 0)), .list (.pair .str (.int .i64)) (listOf (.pair .str (.int .i64)) (nth (Tr.val [] (Tr.lft (Tr.rgt σ.boxes))) 1)) (.own false false)], [], [], [], [], [], [], [], [], [], [], [], [], [], [], [], [], [], [], [], [], [], [], [], [], [], [], [], [.list (.pair .str (.list (.pair .str (.int .i64)))) (listOf (.pair .str (.list (.pair .str (.int .i64)))) (nth (Tr.val [] (Tr.lft (Tr.lft (Tr.lft (Tr.lft (Tr.rgt σ.boxes)))))) 0)) (.own false false)]]) 6⟩ := by kernel_rfl
      rw [pathEq_eq hp]
      exact (h (stringOf (Tr.val .undef (Tr.lft σ.slots))) (intOf (Tr.val .undef (Tr.lft (Tr.lft (Tr.lft (Tr.lft σ.slots)))))) (intOf (Tr.val .undef (Tr.lft (Tr.lft (Tr.lft (Tr.rgt σ.slots)))))) (stringOf (nth (Tr.val [] (Tr.lft (Tr.rgt σ.boxes))) 0)) (listOf (.pair .str (.int .i64)) (nth (Tr.val [] (Tr.lft (Tr.rgt σ.boxes))) 1)) (listOf (.pair .str (.list (.pair .str (.int .i64)))) (nth (Tr.val [] (Tr.lft (Tr.lft (Tr.lft (Tr.lft (Tr.rgt σ.boxes)))))) 0)) K).symm.trans (congrArg (fun s => (ev Try.prog cfg k).loop 13 1 κ [true, true, false, true, false] s K) (e.symm.trans (okSt_eq hs).symm))
    · rfl
  · rfl
theorem L13_0_k (gL13_0 : tL13_0) (cf : CallF) (lf : LoopF) (κ : Res → Option Res) (p0 : ByteArray) (p1 : Int) (p2 : Int) (p3 : ByteArray) (p4 : (List (ByteArray × Int))) (p5 : T5) (K : Cont) : evLp Try.prog cfg cf (L13_0_m gL13_0 lf) 13 1 κ [true, true, false, true, false] ⟨32, Tr.of (nthD .undef [.undef, .str p0, .undef, .undef, .ref 4 0, .undef, .undef, .undef, .undef, .undef, .undef, .undef, .undef, .undef, .alias (.c 32 0), .int .i64 p1, .int .i64 p2]) 6, Tr.of (nthD [] [[], [], [], [], [.str p3, .list (.pair .str (.int .i64)) p4 (.own false false)], [], [], [], [], [], [], [], [], [], [], [], [], [], [], [], [], [], [], [], [], [], [], [], [], [], [], [], [.list (.pair .str (.list (.pair .str (.int .i64)))) p5 (.own false false)]]) 6⟩ K = L13_0_B gL13_0 (fun x => κ ((.tup [.agg [.str x.1.1, .list (.pair .str (.int .i64)) x.1.2 .no], .bool x.2.1], [[.list (.pair .str (.list (.pair .str (.int .i64)))) x.2.2 (.own false false)]]) : Res)) p0 p1 p2 p3 p4 p5 (fun v => K (.exit 0) ⟨32, Tr.of (nthD .undef [.undef, .str p0, .undef, .undef, .ref 4 0, .undef, .undef, .undef, .undef, .undef, .undef, .undef, .undef, .undef, .alias (.c 32 0), .int .i64 p1, .int .i64 v]) 6, Tr.of (nthD [] [[], [], [], [], [.str p3, .list (.pair .str (.int .i64)) p4 (.own false false)], [], [], [], [], [], [], [], [], [], [], [], [], [], [], [], [], [], [], [], [], [], [], [], [], [], [], [], [.list (.pair .str (.list (.pair .str (.int .i64)))) p5 (.own false false)]]) 6⟩) := by
  kernel_rfl
theorem L13_0_ev : ∀ (k : Nat) (κ : Res → Option Res) (p0 : ByteArray) (p1 : Int) (p2 : Int) (p3 : ByteArray) (p4 : (List (ByteArray × Int))) (p5 : T5) (K : Cont), (ev Try.prog cfg k).loop 13 1 κ [true, true, false, true, false] ⟨32, Tr.of (nthD .undef [.undef, .str p0, .undef, .undef, .ref 4 0, .undef, .undef, .undef, .undef, .undef, .undef, .undef, .undef, .undef, .alias (.c 32 0), .int .i64 p1, .int .i64 p2]) 6, Tr.of (nthD [] [[], [], [], [], [.str p3, .list (.pair .str (.int .i64)) p4 (.own false false)], [], [], [], [], [], [], [], [], [], [], [], [], [], [], [], [], [], [], [], [], [], [], [], [], [], [], [], [.list (.pair .str (.list (.pair .str (.int .i64)))) p5 (.own false false)]]) 6⟩ K = L13_0 k (fun x => κ ((.tup [.agg [.str x.1.1, .list (.pair .str (.int .i64)) x.1.2 .no], .bool x.2.1], [[.list (.pair .str (.list (.pair .str (.int .i64)))) x.2.2 (.own false false)]]) : Res)) p0 p1 p2 p3 p4 p5 (fun v => K (.exit 0) ⟨32, Tr.of (nthD .undef [.undef, .str p0, .undef, .undef, .ref 4 0, .undef, .undef, .undef, .undef, .undef, .undef, .undef, .undef, .undef, .alias (.c 32 0), .int .i64 p1, .int .i64 v]) 6, Tr.of (nthD [] [[], [], [], [], [.str p3, .list (.pair .str (.int .i64)) p4 (.own false false)], [], [], [], [], [], [], [], [], [], [], [], [], [], [], [], [], [], [], [], [], [], [], [], [], [], [], [], [.list (.pair .str (.list (.pair .str (.int .i64)))) p5 (.own false false)]]) 6⟩) := by
  intro k κ
  induction k with
  | zero => intro p0 p1 p2 p3 p4 p5 K; rfl
  | succ k ih =>
    intro p0 p1 p2 p3 p4 p5 K
    rw [ev_loop, ← L13_0_d k κ ih]
    exact L13_0_k _ _ _ κ p0 p1 p2 p3 p4 p5 K
def F13_B (gL13_0 : tL13_0) (a1 : ByteArray) (b0_0 : T5) (κ : T4 × Bool × T5 → Option Res) : Option Res :=
  chk2 (if false = true then
    (none)
   else
    (chk1 (gL13_0 a1 (b0_0.length : Int) (0 : Int) (⟨#[]⟩ : ByteArray) ([] : List (ByteArray × Int)) b0_0 fun v1 =>
     chk3 (κ (((⟨#[]⟩ : ByteArray), ([] : List (ByteArray × Int))), (false, b0_0))))))
/-- (*lamplighter/schema.Schema).Find -/
def F13 : Nat → ByteArray → T5 → (T4 × Bool × T5 → Option Res) → Option Res
  | 0, _, _, _ => none
  | k + 1, a1, b0_0, κ => F13_B (L13_0 k κ) a1 b0_0 κ
def F13_s : List SC := [.one (.ref 0 0), .one .str]
def F13_b : List (List SC) := [[.one (.list (.pair .str (.list (.pair .str (.int .i64)))) (.own false false))]]
def F13_m (g : ByteArray → T5 → (T4 × Bool × T5 → Option Res) → Option Res) (cf : CallF) : CallF := fun f args lent κ => match Nat.beq f 13 with
  | true => match okC F13_s args && okB F13_b lent with
    | true => g (stringOf (nth args 1)) (listOf (.pair .str (.list (.pair .str (.int .i64)))) (nth (nthB lent 0) 0)) (fun x => κ ((.tup [.agg [.str x.1.1, .list (.pair .str (.int .i64)) x.1.2 .no], .bool x.2.1], [[.list (.pair .str (.list (.pair .str (.int .i64)))) x.2.2 (.own false false)]]) : Res))
    | false => cf f args lent κ
  | false => cf f args lent κ
theorem F13_d (k : Nat) (h : ∀ (a1 : ByteArray) (b0_0 : T5) (κ : Res → Option Res), (ev Try.prog cfg k).call 13 [.ref 0 0, .str a1] [[.list (.pair .str (.list (.pair .str (.int .i64)))) b0_0 (.own false false)]] κ = F13 k a1 b0_0 (fun x => κ ((.tup [.agg [.str x.1.1, .list (.pair .str (.int .i64)) x.1.2 .no], .bool x.2.1], [[.list (.pair .str (.list (.pair .str (.int .i64)))) x.2.2 (.own false false)]]) : Res))) : F13_m (F13 k) (ev Try.prog cfg k).call = (ev Try.prog cfg k).call := by
  funext f args lent κ
  unfold F13_m
  split
  · rename_i hp
    split
    · rename_i hs
      rw [Bool.and_eq_true] at hs
      have e : mkC F13_s 0 args = [.ref 0 0, .str (stringOf (nth args 1))] := by kernel_rfl
      have e' : mkB F13_b 0 lent = [[.list (.pair .str (.list (.pair .str (.int .i64)))) (listOf (.pair .str (.list (.pair .str (.int .i64)))) (nth (nthB lent 0) 0)) (.own false false)]] := by kernel_rfl
      obtain rfl := Nat.eq_of_beq_eq_true hp
      exact (h (stringOf (nth args 1)) (listOf (.pair .str (.list (.pair .str (.int .i64)))) (nth (nthB lent 0) 0)) κ).symm.trans (cong2 (fun a l => (ev Try.prog cfg k).call 13 a l κ) (e.symm.trans (okC_eq hs.1).symm) (e'.symm.trans (okB_eq hs.2).symm))
    · rfl
  · rfl
theorem F13_k (gL13_0 : tL13_0) (cf : CallF) (lf : LoopF) (a1 : ByteArray) (b0_0 : T5) (κ : Res → Option Res) : evFn Try.prog cfg cf (L13_0_m gL13_0 lf) 13 [.ref 0 0, .str a1] [[.list (.pair .str (.list (.pair .str (.int .i64)))) b0_0 (.own false false)]] κ = F13_B gL13_0 a1 b0_0 (fun x => κ ((.tup [.agg [.str x.1.1, .list (.pair .str (.int .i64)) x.1.2 .no], .bool x.2.1], [[.list (.pair .str (.list (.pair .str (.int .i64)))) x.2.2 (.own false false)]]) : Res)) := by
  kernel_rfl
theorem F13_ev : ∀ (k : Nat) (a1 : ByteArray) (b0_0 : T5) (κ : Res → Option Res), (ev Try.prog cfg k).call 13 [.ref 0 0, .str a1] [[.list (.pair .str (.list (.pair .str (.int .i64)))) b0_0 (.own false false)]] κ = F13 k a1 b0_0 (fun x => κ ((.tup [.agg [.str x.1.1, .list (.pair .str (.int .i64)) x.1.2 .no], .bool x.2.1], [[.list (.pair .str (.list (.pair .str (.int .i64)))) x.2.2 (.own false false)]]) : Res)) := by
  intro k
  induction k with
  | zero => intros; rfl
  | succ k ih =>
    intro a1 b0_0 κ
    refine (ev_call' Try.prog cfg k 13 1 _ _ κ (by rfl)).trans ?_
    rw [← L13_0_d k κ (L13_0_ev k κ)]
    exact F13_k _ _ _ a1 b0_0 κ
def L6_0_B (gF11 : tF11) (gF12 : tF12) (gF13 : tF13) (gL6_0 : tL6_0) (κ : Int → Option Res) (κ1 : Int × T5 → Option Res) (p0 : T5) (p1 : Int) (p2 : Int) (p3 : T5) (K : Int × T5 → Option Res) : Option Res :=
  chk1 (if decide (p2 < p1) = true then
    (if (true && (decide ((0 : Int) ≤ p2) && decide (p2 < (p0.length : Int)))) = true then
     (chk4 (gF11 ((p0.getD p2.toNat ((⟨#[]⟩ : ByteArray), ([] : List (ByteArray × Int)))).1) fun x1 =>
      chk1 (if (!x1) = true then
        (chk1 (κ (1 : Int)))
       else
        (chk1 (gF12 ((p0.getD p2.toNat ((⟨#[]⟩ : ByteArray), ([] : List (ByteArray × Int)))).2) fun x2 =>
         chk1 (if (!x2) = true then
           (κ (1 : Int))
          else
           (chk1 (gF13 ((p0.getD p2.toNat ((⟨#[]⟩ : ByteArray), ([] : List (ByteArray × Int)))).1) p3 fun x3 =>
            chk4 (if x3.2.1 = true then
              (κ (4 : Int))
             else
              (if (true && (true && decide (((p0.getD p2.toNat ((⟨#[]⟩ : ByteArray), ([] : List (ByteArray × Int)))).2).length ≤ 1000000))) = true then chk6 (if decide ((x3.2.2.length + ([(p0.getD p2.toNat ((⟨#[]⟩ : ByteArray), ([] : List (ByteArray × Int))))] : List T4).length) * 40 ≤ 140737488355328) = true then chk3 (gL6_0 p0 p1 (IntKind.wrap .i64 (p2 + (1 : Int))) (x3.2.2 ++ ([(p0.getD p2.toNat ((⟨#[]⟩ : ByteArray), ([] : List (ByteArray × Int))))] : List T4)) K) else none) else none))))))))))
    else
     (none))
   else
    (K (p2, p3)))
def L6_0 : Nat → (Int → Option Res) → (Int × T5 → Option Res) → T5 → Int → Int → T5 → (Int × T5 → Option Res) → Option Res
  | 0, _, _, _, _, _, _, _ => none
  | k + 1, κ, κ1, p0, p1, p2, p3, K => L6_0_B (F11 k) (F12 k) (F13 k) (fun p0 p1 p2 p3 K => L6_0 k κ κ1 p0 p1 p2 p3 K) κ κ1 p0 p1 p2 p3 K
def L6_0_s : Tr SC := Tr.of (nthD (.one .undef) [.one .undef, .one .undef, .one .undef, .one .undef, .one (.ref 13 0), .one .undef, .one .undef, .one .undef, .one .undef, .one .undef, .one .undef, .one .undef, .one .undef, .one (.ref 13 0), .one (.list (.pair .str (.list (.pair .str (.int .i64)))) .no), .one (.int .i64), .one (.int .i64)]) 6
def L6_0_b : Tr (List SC) := Tr.of (nthD [] [[], [], [], [], [], [], [], [], [], [], [], [], [], [.one (.list (.pair .str (.list (.pair .str (.int .i64)))) (.own false false))]]) 6
def L6_0_m (g : T5 → Int → Int → T5 → (Int × T5 → Option Res) → Option Res) (lf : LoopF) : LoopF := fun p σ K => match pathEq p [true, true, true, false, true, false] with
  | true => match okSt 55 L6_0_s L6_0_b σ with
    | true => g (listOf (.pair .str (.list (.pair .str (.int .i64)))) (Tr.val .undef (Tr.rgt (Tr.rgt (Tr.rgt σ.slots))))) (intOf (Tr.val .undef (Tr.lft (Tr.lft (Tr.lft (Tr.lft σ.slots)))))) (intOf (Tr.val .undef (Tr.lft (Tr.lft (Tr.lft (Tr.rgt σ.slots)))))) (listOf (.pair .str (.list (.pair .str (.int .i64)))) (nth (Tr.val [] (Tr.rgt (Tr.rgt (Tr.lft σ.boxes)))) 0)) (fun v => K (.exit 0) ⟨55, Tr.of (nthD .undef [.undef, .undef, .undef, .undef, .ref 13 0, .undef, .undef, .undef, .undef, .undef, .undef, .undef, .undef, .ref 13 0, .list (.pair .str (.list (.pair .str (.int .i64)))) (listOf (.pair .str (.list (.pair .str (.int .i64)))) (Tr.val .undef (Tr.rgt (Tr.rgt (Tr.rgt σ.slots))))) .no, .int .i64 (intOf (Tr.val .undef (Tr.lft (Tr.lft (Tr.lft (Tr.lft σ.slots)))))), .int .i64 v.1]) 6, Tr.of (nthD [] [[], [], [], [], [], [], [], [], [], [], [], [], [], [.list (.pair .str (.list (.pair .str (.int .i64)))) v.2 (.own false false)]]) 6⟩)
    | false => lf p σ K
  | false => lf p σ K
theorem L6_0_d (k : Nat) (κ : Res → Option Res) (h : ∀ (p0 : T5) (p1 : Int) (p2 : Int) (p3 : T5) (K : Cont), (ev Try.prog cfg k).loop 6 0 κ [true, true, true, false, true, false] ⟨55, Tr.of (nthD .undef [.undef, .undef, .undef, .undef, .ref 13 0, .undef, .undef, .undef, .undef, .undef, .undef, .undef, .undef, .ref 13 0, .list (.pair .str (.list (.pair .str (.int .i64)))) p0 .no, .int .i64 p1, .int .i64 p2]) 6, Tr.of (nthD [] [[], [], [], [], [], [], [], [], [], [], [], [], [], [.list (.pair .str (.list (.pair .str (.int .i64)))) p3 (.own false false)]]) 6⟩ K = L6_0 k (fun x => κ ((.tup [.nilp, .int .i64 x], []) : Res)) (fun x => κ ((.tup [.ref 0 0, .int .i64 x.1], [[.list (.pair .str (.list (.pair .str (.int .i64)))) x.2 (.own false false)]]) : Res)) p0 p1 p2 p3 (fun v => K (.exit 0) ⟨55, Tr.of (nthD .undef [.undef, .undef, .undef, .undef, .ref 13 0, .undef, .undef, .undef, .undef, .undef, .undef, .undef, .undef, .ref 13 0, .list (.pair .str (.list (.pair .str (.int .i64)))) p0 .no, .int .i64 p1, .int .i64 v.1]) 6, Tr.of (nthD [] [[], [], [], [], [], [], [], [], [], [], [], [], [], [.list (.pair .str (.list (.pair .str (.int .i64)))) v.2 (.own false false)]]) 6⟩)) : L6_0_m (L6_0 k (fun x => κ ((.tup [.nilp, .int .i64 x], []) : Res)) (fun x => κ ((.tup [.ref 0 0, .int .i64 x.1], [[.list (.pair .str (.list (.pair .str (.int .i64)))) x.2 (.own false false)]]) : Res))) ((ev Try.prog cfg k).loop 6 0 κ) = (ev Try.prog cfg k).loop 6 0 κ := by
  funext p σ K
  unfold L6_0_m
  split
  · rename_i hp
    split
    · rename_i hs
      have e : mkSt 55 L6_0_s L6_0_b σ = ⟨55, Tr.of (nthD .undef [.undef, .undef, .undef, .undef, .ref 13 0, .undef, .undef, .undef, .undef, .undef, .undef, .undef, .undef, .ref 13 0, .list (.pair .str (.list (.pair .str (.int .i64)))) (listOf (.pair .str (.list (.pair .str (.int .i64)))) (Tr.val .undef (Tr.rgt (Tr.rgt (Tr.rgt σ.slots))))) .no, .int .i64 (intOf (Tr.val .undef (Tr.lft (Tr.lft (Tr.lft (Tr.lft σ.slots)))))), .int .i64 (intOf (Tr.val .undef (Tr.lft (Tr.lft (Tr.lft (Tr.rgt σ.slots))))))]) 6, Tr.of (nthD [] [[], [], [], [], [], [], [], [], [], [], [], [], [], [.list (.pair .str (.list (.pair .str (.int .i64)))) (listOf (.pair .str (.list (.pair .str (.int .i64)))) (nth (Tr.val [] (Tr.rgt (Tr.rgt (Tr.lft σ.boxes)))) 0)) (.own false false)]]) 6⟩ := by kernel_rfl
      rw [pathEq_eq hp]
      exact (h (listOf (.pair .str (.list (.pair .str (.int .i64)))) (Tr.val .undef (Tr.rgt (Tr.rgt (Tr.rgt σ.slots))))) (intOf (Tr.val .undef (Tr.lft (Tr.lft (Tr.lft (Tr.lft σ.slots)))))) (intOf (Tr.val .undef (Tr.lft (Tr.lft (Tr.lft (Tr.rgt σ.slots)))))) (listOf (.pair .str (.list (.pair .str (.int .i64)))) (nth (Tr.val [] (Tr.rgt (Tr.rgt (Tr.lft σ.boxes)))) 0)) K).symm.trans (congrArg (fun s => (ev Try.prog cfg k).loop 6 0 κ [true, true, true, false, true, false] s K) (e.symm.trans (okSt_eq hs).symm))
    · rfl
  · rfl
theorem L6_0_k (gF11 : tF11) (gF12 : tF12) (gF13 : tF13) (gL6_0 : tL6_0) (cf : CallF) (lf : LoopF) (κ : Res → Option Res) (p0 : T5) (p1 : Int) (p2 : Int) (p3 : T5) (K : Cont) : evLp Try.prog cfg (F11_m gF11 (F12_m gF12 (F13_m gF13 cf))) (L6_0_m gL6_0 lf) 6 0 κ [true, true, true, false, true, false] ⟨55, Tr.of (nthD .undef [.undef, .undef, .undef, .undef, .ref 13 0, .undef, .undef, .undef, .undef, .undef, .undef, .undef, .undef, .ref 13 0, .list (.pair .str (.list (.pair .str (.int .i64)))) p0 .no, .int .i64 p1, .int .i64 p2]) 6, Tr.of (nthD [] [[], [], [], [], [], [], [], [], [], [], [], [], [], [.list (.pair .str (.list (.pair .str (.int .i64)))) p3 (.own false false)]]) 6⟩ K = L6_0_B gF11 gF12 gF13 gL6_0 (fun x => κ ((.tup [.nilp, .int .i64 x], []) : Res)) (fun x => κ ((.tup [.ref 0 0, .int .i64 x.1], [[.list (.pair .str (.list (.pair .str (.int .i64)))) x.2 (.own false false)]]) : Res)) p0 p1 p2 p3 (fun v => K (.exit 0) ⟨55, Tr.of (nthD .undef [.undef, .undef, .undef, .undef, .ref 13 0, .undef, .undef, .undef, .undef, .undef, .undef, .undef, .undef, .ref 13 0, .list (.pair .str (.list (.pair .str (.int .i64)))) p0 .no, .int .i64 p1, .int .i64 v.1]) 6, Tr.of (nthD [] [[], [], [], [], [], [], [], [], [], [], [], [], [], [.list (.pair .str (.list (.pair .str (.int .i64)))) v.2 (.own false false)]]) 6⟩) := by
  kernel_rfl
theorem L6_0_ev : ∀ (k : Nat) (κ : Res → Option Res) (p0 : T5) (p1 : Int) (p2 : Int) (p3 : T5) (K : Cont), (ev Try.prog cfg k).loop 6 0 κ [true, true, true, false, true, false] ⟨55, Tr.of (nthD .undef [.undef, .undef, .undef, .undef, .ref 13 0, .undef, .undef, .undef, .undef, .undef, .undef, .undef, .undef, .ref 13 0, .list (.pair .str (.list (.pair .str (.int .i64)))) p0 .no, .int .i64 p1, .int .i64 p2]) 6, Tr.of (nthD [] [[], [], [], [], [], [], [], [], [], [], [], [], [], [.list (.pair .str (.list (.pair .str (.int .i64)))) p3 (.own false false)]]) 6⟩ K = L6_0 k (fun x => κ ((.tup [.nilp, .int .i64 x], []) : Res)) (fun x => κ ((.tup [.ref 0 0, .int .i64 x.1], [[.list (.pair .str (.list (.pair .str (.int .i64)))) x.2 (.own false false)]]) : Res)) p0 p1 p2 p3 (fun v => K (.exit 0) ⟨55, Tr.of (nthD .undef [.undef, .undef, .undef, .undef, .ref 13 0, .undef, .undef, .undef, .undef, .undef, .undef, .undef, .undef, .ref 13 0, .list (.pair .str (.list (.pair .str (.int .i64)))) p0 .no, .int .i64 p1, .int .i64 v.1]) 6, Tr.of (nthD [] [[], [], [], [], [], [], [], [], [], [], [], [], [], [.list (.pair .str (.list (.pair .str (.int .i64)))) v.2 (.own false false)]]) 6⟩) := by
  intro k κ
  induction k with
  | zero => intro p0 p1 p2 p3 K; rfl
  | succ k ih =>
    intro p0 p1 p2 p3 K
    rw [ev_loop, ← F11_d k (F11_ev k), ← F12_d k (F12_ev k), ← F13_d k (F13_ev k), ← L6_0_d k κ ih]
    exact L6_0_k _ _ _ _ _ _ κ p0 p1 p2 p3 K
def F6_B (gF11 : tF11) (gF12 : tF12) (gF13 : tF13) (gL6_0 : tL6_0) (a0 : T5) (κ : Int → Option Res) (κ1 : Int × T5 → Option Res) : Option Res :=
  chk2 (if decide ((a0.length : Int) > (16 : Int)) = true then
    (κ (5 : Int))
   else
    (chk3 (gL6_0 a0 (a0.length : Int) (0 : Int) ([] : List T4) fun v4 =>
     κ1 ((0 : Int), v4.2))))
/-- lamplighter/schema.New -/
def F6 : Nat → T5 → (Int → Option Res) → (Int × T5 → Option Res) → Option Res
  | 0, _, _, _ => none
  | k + 1, a0, κ, κ1 => F6_B (F11 k) (F12 k) (F13 k) (L6_0 k κ κ1) a0 κ κ1
def F6_s : List SC := [.one (.list (.pair .str (.list (.pair .str (.int .i64)))) .no)]
def F6_b : List (List SC) := []
def F6_m (g : T5 → (Int → Option Res) → (Int × T5 → Option Res) → Option Res) (cf : CallF) : CallF := fun f args lent κ => match Nat.beq f 6 with
  | true => match okC F6_s args && okB F6_b lent with
    | true => g (listOf (.pair .str (.list (.pair .str (.int .i64)))) (nth args 0)) (fun x => κ ((.tup [.nilp, .int .i64 x], []) : Res)) (fun x => κ ((.tup [.ref 0 0, .int .i64 x.1], [[.list (.pair .str (.list (.pair .str (.int .i64)))) x.2 (.own false false)]]) : Res))
    | false => cf f args lent κ
  | false => cf f args lent κ
theorem F6_d (k : Nat) (h : ∀ (a0 : T5) (κ : Res → Option Res), (ev Try.prog cfg k).call 6 [.list (.pair .str (.list (.pair .str (.int .i64)))) a0 .no] [] κ = F6 k a0 (fun x => κ ((.tup [.nilp, .int .i64 x], []) : Res)) (fun x => κ ((.tup [.ref 0 0, .int .i64 x.1], [[.list (.pair .str (.list (.pair .str (.int .i64)))) x.2 (.own false false)]]) : Res))) : F6_m (F6 k) (ev Try.prog cfg k).call = (ev Try.prog cfg k).call := by
  funext f args lent κ
  unfold F6_m
  split
  · rename_i hp
    split
    · rename_i hs
      rw [Bool.and_eq_true] at hs
      have e : mkC F6_s 0 args = [.list (.pair .str (.list (.pair .str (.int .i64)))) (listOf (.pair .str (.list (.pair .str (.int .i64)))) (nth args 0)) .no] := by kernel_rfl
      have e' : mkB F6_b 0 lent = [] := by kernel_rfl
      obtain rfl := Nat.eq_of_beq_eq_true hp
      exact (h (listOf (.pair .str (.list (.pair .str (.int .i64)))) (nth args 0)) κ).symm.trans (cong2 (fun a l => (ev Try.prog cfg k).call 6 a l κ) (e.symm.trans (okC_eq hs.1).symm) (e'.symm.trans (okB_eq hs.2).symm))
    · rfl
  · rfl
theorem F6_k (gF11 : tF11) (gF12 : tF12) (gF13 : tF13) (gL6_0 : tL6_0) (cf : CallF) (lf : LoopF) (a0 : T5) (κ : Res → Option Res) : evFn Try.prog cfg (F11_m gF11 (F12_m gF12 (F13_m gF13 cf))) (L6_0_m gL6_0 lf) 6 [.list (.pair .str (.list (.pair .str (.int .i64)))) a0 .no] [] κ = F6_B gF11 gF12 gF13 gL6_0 a0 (fun x => κ ((.tup [.nilp, .int .i64 x], []) : Res)) (fun x => κ ((.tup [.ref 0 0, .int .i64 x.1], [[.list (.pair .str (.list (.pair .str (.int .i64)))) x.2 (.own false false)]]) : Res)) := by
  kernel_rfl
theorem F6_ev : ∀ (k : Nat) (a0 : T5) (κ : Res → Option Res), (ev Try.prog cfg k).call 6 [.list (.pair .str (.list (.pair .str (.int .i64)))) a0 .no] [] κ = F6 k a0 (fun x => κ ((.tup [.nilp, .int .i64 x], []) : Res)) (fun x => κ ((.tup [.ref 0 0, .int .i64 x.1], [[.list (.pair .str (.list (.pair .str (.int .i64)))) x.2 (.own false false)]]) : Res)) := by
  intro k
  induction k with
  | zero => intros; rfl
  | succ k ih =>
    intro a0 κ
    refine (ev_call' Try.prog cfg k 6 0 _ _ κ (by rfl)).trans ?_
    rw [← F11_d k (F11_ev k), ← F12_d k (F12_ev k), ← F13_d k (F13_ev k), ← L6_0_d k κ (L6_0_ev k κ)]
    exact F6_k _ _ _ _ _ _ a0 κ
def F30_B  (a0 : T13) (b0_0 : ByteArray) (κ : Bool × ByteArray → Option Res) : Option Res :=
  chk2 (κ ((a0.1.toList == b0_0.toList), b0_0))
/-- lamplighter/pat.Find$1 -/
def F30 : Nat → T13 → ByteArray → (Bool × ByteArray → Option Res) → Option Res
  | 0, _, _, _ => none
  | k + 1, a0, b0_0, κ => F30_B  a0 b0_0 κ
def F30_s : List SC := [.agg [.str, .list .str .no, .bool, .int .i64, .int .i64, .list (.pair (.int .i64) (.pair (.pair (.int .i64) (.pair (.int .i64) (.pair .str .bool))) (.pair .str .str))) .no], .one (.ref 0 0)]
def F30_b : List (List SC) := [[.one .str]]
def F30_m (g : T13 → ByteArray → (Bool × ByteArray → Option Res) → Option Res) (cf : CallF) : CallF := fun f args lent κ => match Nat.beq f 30 with
  | true => match okC F30_s args && okB F30_b lent with
    | true => g ((stringOf (nth (aggOf (nth args 0)) 0)), ((listOf .str (nth (aggOf (nth args 0)) 1)), ((boolOf (nth (aggOf (nth args 0)) 2)), ((intOf (nth (aggOf (nth args 0)) 3)), ((intOf (nth (aggOf (nth args 0)) 4)), (listOf (.pair (.int .i64) (.pair (.pair (.int .i64) (.pair (.int .i64) (.pair .str .bool))) (.pair .str .str))) (nth (aggOf (nth args 0)) 5))))))) (stringOf (nth (nthB lent 0) 0)) (fun x => κ ((.bool x.1, [[.str x.2]]) : Res))
    | false => cf f args lent κ
  | false => cf f args lent κ
theorem F30_d (k : Nat) (h : ∀ (a0 : T13) (b0_0 : ByteArray) (κ : Res → Option Res), (ev Try.prog cfg k).call 30 [.agg [.str a0.1, .list .str a0.2.1 .no, .bool a0.2.2.1, .int .i64 a0.2.2.2.1, .int .i64 a0.2.2.2.2.1, .list (.pair (.int .i64) (.pair (.pair (.int .i64) (.pair (.int .i64) (.pair .str .bool))) (.pair .str .str))) a0.2.2.2.2.2 .no], .ref 0 0] [[.str b0_0]] κ = F30 k a0 b0_0 (fun x => κ ((.bool x.1, [[.str x.2]]) : Res))) : F30_m (F30 k) (ev Try.prog cfg k).call = (ev Try.prog cfg k).call := by
  funext f args lent κ
  unfold F30_m
  split
  · rename_i hp
    split
    · rename_i hs
      rw [Bool.and_eq_true] at hs
      have e : mkC F30_s 0 args = [.agg [.str (stringOf (nth (aggOf (nth args 0)) 0)), .list .str (listOf .str (nth (aggOf (nth args 0)) 1)) .no, .bool (boolOf (nth (aggOf (nth args 0)) 2)), .int .i64 (intOf (nth (aggOf (nth args 0)) 3)), .int .i64 (intOf (nth (aggOf (nth args 0)) 4)), .list (.pair (.int .i64) (.pair (.pair (.int .i64) (.pair (.int .i64) (.pair .str .bool))) (.pair .str .str))) (listOf (.pair (.int .i64) (.pair (.pair (.int .i64) (.pair (.int .i64) (.pair .str .bool))) (.pair .str .str))) (nth (aggOf (nth args 0)) 5)) .no], .ref 0 0] := by kernel_rfl
      have e' : mkB F30_b 0 lent = [[.str (stringOf (nth (nthB lent 0) 0))]] := by kernel_rfl
      obtain rfl := Nat.eq_of_beq_eq_true hp
      exact (h ((stringOf (nth (aggOf (nth args 0)) 0)), ((listOf .str (nth (aggOf (nth args 0)) 1)), ((boolOf (nth (aggOf (nth args 0)) 2)), ((intOf (nth (aggOf (nth args 0)) 3)), ((intOf (nth (aggOf (nth args 0)) 4)), (listOf (.pair (.int .i64) (.pair (.pair (.int .i64) (.pair (.int .i64) (.pair .str .bool))) (.pair .str .str))) (nth (aggOf (nth args 0)) 5))))))) (stringOf (nth (nthB lent 0) 0)) κ).symm.trans (cong2 (fun a l => (ev Try.prog cfg k).call 30 a l κ) (e.symm.trans (okC_eq hs.1).symm) (e'.symm.trans (okB_eq hs.2).symm))
    · rfl
  · rfl
theorem F30_k  (cf : CallF) (lf : LoopF) (a0 : T13) (b0_0 : ByteArray) (κ : Res → Option Res) : evFn Try.prog cfg cf lf 30 [.agg [.str a0.1, .list .str a0.2.1 .no, .bool a0.2.2.1, .int .i64 a0.2.2.2.1, .int .i64 a0.2.2.2.2.1, .list (.pair (.int .i64) (.pair (.pair (.int .i64) (.pair (.int .i64) (.pair .str .bool))) (.pair .str .str))) a0.2.2.2.2.2 .no], .ref 0 0] [[.str b0_0]] κ = F30_B  a0 b0_0 (fun x => κ ((.bool x.1, [[.str x.2]]) : Res)) := by
  kernel_rfl
theorem F30_ev : ∀ (k : Nat) (a0 : T13) (b0_0 : ByteArray) (κ : Res → Option Res), (ev Try.prog cfg k).call 30 [.agg [.str a0.1, .list .str a0.2.1 .no, .bool a0.2.2.1, .int .i64 a0.2.2.2.1, .int .i64 a0.2.2.2.2.1, .list (.pair (.int .i64) (.pair (.pair (.int .i64) (.pair (.int .i64) (.pair .str .bool))) (.pair .str .str))) a0.2.2.2.2.2 .no], .ref 0 0] [[.str b0_0]] κ = F30 k a0 b0_0 (fun x => κ ((.bool x.1, [[.str x.2]]) : Res)) := by
  intro k
  induction k with
  | zero => intros; rfl
  | succ k ih =>
    intro a0 b0_0 κ
    refine (ev_call' Try.prog cfg k 30 1 _ _ κ (by rfl)).trans ?_
    skip
    exact F30_k  _ _ a0 b0_0 κ
def L29_0_B (gF30 : tF30) (gL29_0 : tL29_0) (κ : Int × ByteArray → Option Res) (p0 : T14) (p1 : Int) (p2 : Int) (p3 : ByteArray) (K : Int × ByteArray → Option Res) : Option Res :=
  chk1 (if decide (p2 < p1) = true then
    (if (true && (decide ((0 : Int) ≤ p2) && decide (p2 < (p0.length : Int)))) = true then
     (chk1 (gF30 ((p0.getD p2.toNat ((⟨#[]⟩ : ByteArray), (([] : List ByteArray), (false, ((0 : Int), ((0 : Int), ([] : List T7))))))).1, (((p0.getD p2.toNat ((⟨#[]⟩ : ByteArray), (([] : List ByteArray), (false, ((0 : Int), ((0 : Int), ([] : List T7))))))).2).1, ((((p0.getD p2.toNat ((⟨#[]⟩ : ByteArray), (([] : List ByteArray), (false, ((0 : Int), ((0 : Int), ([] : List T7))))))).2).2).1, (((((p0.getD p2.toNat ((⟨#[]⟩ : ByteArray), (([] : List ByteArray), (false, ((0 : Int), ((0 : Int), ([] : List T7))))))).2).2).2).1, (((((p0.getD p2.toNat ((⟨#[]⟩ : ByteArray), (([] : List ByteArray), (false, ((0 : Int), ((0 : Int), ([] : List T7))))))).2).2).2).2))))) p3 fun x1 =>
      chk1 (if x1.1 = true then
        (κ (p2, x1.2))
       else
        (chk1 (gL29_0 p0 p1 (IntKind.wrap .i64 (p2 + (1 : Int))) x1.2 K)))))
    else
     (none))
   else
    (K (p2, p3)))
def L29_0 : Nat → (Int × ByteArray → Option Res) → T14 → Int → Int → ByteArray → (Int × ByteArray → Option Res) → Option Res
  | 0, _, _, _, _, _, _ => none
  | k + 1, κ, p0, p1, p2, p3, K => L29_0_B (F30 k) (fun p0 p1 p2 p3 K => L29_0 k κ p0 p1 p2 p3 K) κ p0 p1 p2 p3 K
def L29_0_s : Tr SC := Tr.of (nthD (.one .undef) [.one (.list (.pair .str (.pair (.list .str) (.pair .bool (.pair (.int .i64) (.pair (.int .i64) (.list (.pair (.int .i64) (.pair (.pair (.int .i64) (.pair (.int .i64) (.pair .str .bool))) (.pair .str .str))))))))) .no), .fn 30 [.ref 19 0], .one .undef, .one .undef, .one .undef, .one .undef, .one .undef, .one (.int .i64), .one (.int .i64)]) 5
def L29_0_b : Tr (List SC) := Tr.of (nthD [] [[], [], [], [], [], [], [], [], [], [], [], [], [], [], [], [], [], [], [], [.one .str]]) 5
def L29_0_m (g : T14 → Int → Int → ByteArray → (Int × ByteArray → Option Res) → Option Res) (lf : LoopF) : LoopF := fun p σ K => match pathEq p [true, false, true, false] with
  | true => match okSt 19 L29_0_s L29_0_b σ with
    | true => g (listOf (.pair .str (.pair (.list .str) (.pair .bool (.pair (.int .i64) (.pair (.int .i64) (.list (.pair (.int .i64) (.pair (.pair (.int .i64) (.pair (.int .i64) (.pair .str .bool))) (.pair .str .str))))))))) (Tr.val .undef σ.slots)) (intOf (Tr.val .undef (Tr.lft (Tr.lft (Tr.lft σ.slots))))) (intOf (Tr.val .undef (Tr.lft (Tr.lft (Tr.rgt σ.slots))))) (stringOf (nth (Tr.val [] (Tr.lft (Tr.rgt (Tr.lft (Tr.lft σ.boxes))))) 0)) (fun v => K (.exit 0) ⟨19, Tr.of (nthD .undef [.list (.pair .str (.pair (.list .str) (.pair .bool (.pair (.int .i64) (.pair (.int .i64) (.list (.pair (.int .i64) (.pair (.pair (.int .i64) (.pair (.int .i64) (.pair .str .bool))) (.pair .str .str))))))))) (listOf (.pair .str (.pair (.list .str) (.pair .bool (.pair (.int .i64) (.pair (.int .i64) (.list (.pair (.int .i64) (.pair (.pair (.int .i64) (.pair (.int .i64) (.pair .str .bool))) (.pair .str .str))))))))) (Tr.val .undef σ.slots)) .no, .fn 30 [.ref 19 0], .undef, .undef, .undef, .undef, .undef, .int .i64 (intOf (Tr.val .undef (Tr.lft (Tr.lft (Tr.lft σ.slots))))), .int .i64 v.1]) 5, Tr.of (nthD [] [[], [], [], [], [], [], [], [], [], [], [], [], [], [], [], [], [], [], [], [.str v.2]]) 5⟩)
    | false => lf p σ K
  | false => lf p σ K
theorem L29_0_d (k : Nat) (κ : Res → Option Res) (h : ∀ (p0 : T14) (p1 : Int) (p2 : Int) (p3 : ByteArray) (K : Cont), (ev Try.prog cfg k).loop 29 1 κ [true, false, true, false] ⟨19, Tr.of (nthD .undef [.list (.pair .str (.pair (.list .str) (.pair .bool (.pair (.int .i64) (.pair (.int .i64) (.list (.pair (.int .i64) (.pair (.pair (.int .i64) (.pair (.int .i64) (.pair .str .bool))) (.pair .str .str))))))))) p0 .no, .fn 30 [.ref 19 0], .undef, .undef, .undef, .undef, .undef, .int .i64 p1, .int .i64 p2]) 5, Tr.of (nthD [] [[], [], [], [], [], [], [], [], [], [], [], [], [], [], [], [], [], [], [], [.str p3]]) 5⟩ K = L29_0 k (fun x => κ ((.int .i64 x.1, [[.str x.2]]) : Res)) p0 p1 p2 p3 (fun v => K (.exit 0) ⟨19, Tr.of (nthD .undef [.list (.pair .str (.pair (.list .str) (.pair .bool (.pair (.int .i64) (.pair (.int .i64) (.list (.pair (.int .i64) (.pair (.pair (.int .i64) (.pair (.int .i64) (.pair .str .bool))) (.pair .str .str))))))))) p0 .no, .fn 30 [.ref 19 0], .undef, .undef, .undef, .undef, .undef, .int .i64 p1, .int .i64 v.1]) 5, Tr.of (nthD [] [[], [], [], [], [], [], [], [], [], [], [], [], [], [], [], [], [], [], [], [.str v.2]]) 5⟩)) : L29_0_m (L29_0 k (fun x => κ ((.int .i64 x.1, [[.str x.2]]) : Res))) ((ev Try.prog cfg k).loop 29 1 κ) = (ev Try.prog cfg k).loop 29 1 κ := by
  funext p σ K
  unfold L29_0_m
  split
  · rename_i hp
    split
    · rename_i hs
      have e : mkSt 19 L29_0_s L29_0_b σ = ⟨19, Tr.of (nthD .undef [.list (.pair .str (.pair (.list .str) (.pair .bool (.pair (.int .i64) (.pair (.int .i64) (.list (.pair (.int .i64) (.pair (.pair (.int .i64) (.pair (.int .i64) (.pair .str .bool))) (.pair .str .str))))))))) (listOf (.pair .str (.pair (.list .str) (.pair .bool (.pair (.int .i64) (.pair (.int .i64) (.list (.pair (.int .i64) (.pair (.pair (.int .i64) (.pair (.int .i64) (.pair .str .bool))) (.pair .str .str))))))))) (Tr.val .undef σ.slots)) .no, .fn 30 [.ref 19 0], .undef, .undef, .undef, .undef, .undef, .int .i64 (intOf (Tr.val .undef (Tr.lft (Tr.lft (Tr.lft σ.slots))))), .int .i64 (intOf (Tr.val .undef (Tr.lft (Tr.lft (Tr.rgt σ.slots)))))]) 5, Tr.of (nthD [] [[], [], [], [], [], [], [], [], [], [], [], [], [], [], [], [], [], [], [], [.str (stringOf (nth (Tr.val [] (Tr.lft (Tr.rgt (Tr.lft (Tr.lft σ.boxes))))) 0))]]) 5⟩ := by kernel_rfl
      rw [pathEq_eq hp]
      exact (h (listOf (.pair .str (.pair (.list .str) (.pair .bool (.pair (.int .i64) (.pair (.int .i64) (.list (.pair (.int .i64) (.pair (.pair (.int .i64) (.pair (.int .i64) (.pair .str .bool))) (.pair .str .str))))))))) (Tr.val .undef σ.slots)) (intOf (Tr.val .undef (Tr.lft (Tr.lft (Tr.lft σ.slots))))) (intOf (Tr.val .undef (Tr.lft (Tr.lft (Tr.rgt σ.slots))))) (stringOf (nth (Tr.val [] (Tr.lft (Tr.rgt (Tr.lft (Tr.lft σ.boxes))))) 0)) K).symm.trans (congrArg (fun s => (ev Try.prog cfg k).loop 29 1 κ [true, false, true, false] s K) (e.symm.trans (okSt_eq hs).symm))
    · rfl
  · rfl
theorem L29_0_k (gF30 : tF30) (gL29_0 : tL29_0) (cf : CallF) (lf : LoopF) (κ : Res → Option Res) (p0 : T14) (p1 : Int) (p2 : Int) (p3 : ByteArray) (K : Cont) : evLp Try.prog cfg (F30_m gF30 cf) (L29_0_m gL29_0 lf) 29 1 κ [true, false, true, false] ⟨19, Tr.of (nthD .undef [.list (.pair .str (.pair (.list .str) (.pair .bool (.pair (.int .i64) (.pair (.int .i64) (.list (.pair (.int .i64) (.pair (.pair (.int .i64) (.pair (.int .i64) (.pair .str .bool))) (.pair .str .str))))))))) p0 .no, .fn 30 [.ref 19 0], .undef, .undef, .undef, .undef, .undef, .int .i64 p1, .int .i64 p2]) 5, Tr.of (nthD [] [[], [], [], [], [], [], [], [], [], [], [], [], [], [], [], [], [], [], [], [.str p3]]) 5⟩ K = L29_0_B gF30 gL29_0 (fun x => κ ((.int .i64 x.1, [[.str x.2]]) : Res)) p0 p1 p2 p3 (fun v => K (.exit 0) ⟨19, Tr.of (nthD .undef [.list (.pair .str (.pair (.list .str) (.pair .bool (.pair (.int .i64) (.pair (.int .i64) (.list (.pair (.int .i64) (.pair (.pair (.int .i64) (.pair (.int .i64) (.pair .str .bool))) (.pair .str .str))))))))) p0 .no, .fn 30 [.ref 19 0], .undef, .undef, .undef, .undef, .undef, .int .i64 p1, .int .i64 v.1]) 5, Tr.of (nthD [] [[], [], [], [], [], [], [], [], [], [], [], [], [], [], [], [], [], [], [], [.str v.2]]) 5⟩) := by
  kernel_rfl
theorem L29_0_ev : ∀ (k : Nat) (κ : Res → Option Res) (p0 : T14) (p1 : Int) (p2 : Int) (p3 : ByteArray) (K : Cont), (ev Try.prog cfg k).loop 29 1 κ [true, false, true, false] ⟨19, Tr.of (nthD .undef [.list (.pair .str (.pair (.list .str) (.pair .bool (.pair (.int .i64) (.pair (.int .i64) (.list (.pair (.int .i64) (.pair (.pair (.int .i64) (.pair (.int .i64) (.pair .str .bool))) (.pair .str .str))))))))) p0 .no, .fn 30 [.ref 19 0], .undef, .undef, .undef, .undef, .undef, .int .i64 p1, .int .i64 p2]) 5, Tr.of (nthD [] [[], [], [], [], [], [], [], [], [], [], [], [], [], [], [], [], [], [], [], [.str p3]]) 5⟩ K = L29_0 k (fun x => κ ((.int .i64 x.1, [[.str x.2]]) : Res)) p0 p1 p2 p3 (fun v => K (.exit 0) ⟨19, Tr.of (nthD .undef [.list (.pair .str (.pair (.list .str) (.pair .bool (.pair (.int .i64) (.pair (.int .i64) (.list (.pair (.int .i64) (.pair (.pair (.int .i64) (.pair (.int .i64) (.pair .str .bool))) (.pair .str .str))))))))) p0 .no, .fn 30 [.ref 19 0], .undef, .undef, .undef, .undef, .undef, .int .i64 p1, .int .i64 v.1]) 5, Tr.of (nthD [] [[], [], [], [], [], [], [], [], [], [], [], [], [], [], [], [], [], [], [], [.str v.2]]) 5⟩) := by
  intro k κ
  induction k with
  | zero => intro p0 p1 p2 p3 K; rfl
  | succ k ih =>
    intro p0 p1 p2 p3 K
    rw [ev_loop, ← F30_d k (F30_ev k), ← L29_0_d k κ ih]
    exact L29_0_k _ _ _ _ κ p0 p1 p2 p3 K
def F29_B (gF30 : tF30) (gL29_0 : tL29_0) (a0 : T14) (b0_0 : ByteArray) (κ : Int × ByteArray → Option Res) : Option Res :=
  chk1 (gL29_0 a0 (a0.length : Int) (0 : Int) b0_0 fun v2 =>
   κ ((-1 : Int), v2.2))
/-- slices.IndexFunc[[]lamplighter/api.Elem,lamplighter/api.Elem] -/
def F29 : Nat → T14 → ByteArray → (Int × ByteArray → Option Res) → Option Res
  | 0, _, _, _ => none
  | k + 1, a0, b0_0, κ => F29_B (F30 k) (L29_0 k κ) a0 b0_0 κ
def F29_s : List SC := [.one (.list (.pair .str (.pair (.list .str) (.pair .bool (.pair (.int .i64) (.pair (.int .i64) (.list (.pair (.int .i64) (.pair (.pair (.int .i64) (.pair (.int .i64) (.pair .str .bool))) (.pair .str .str))))))))) .no), .fn 30 [.ref 0 0]]
def F29_b : List (List SC) := [[.one .str]]
def F29_m (g : T14 → ByteArray → (Int × ByteArray → Option Res) → Option Res) (cf : CallF) : CallF := fun f args lent κ => match Nat.beq f 29 with
  | true => match okC F29_s args && okB F29_b lent with
    | true => g (listOf (.pair .str (.pair (.list .str) (.pair .bool (.pair (.int .i64) (.pair (.int .i64) (.list (.pair (.int .i64) (.pair (.pair (.int .i64) (.pair (.int .i64) (.pair .str .bool))) (.pair .str .str))))))))) (nth args 0)) (stringOf (nth (nthB lent 0) 0)) (fun x => κ ((.int .i64 x.1, [[.str x.2]]) : Res))
    | false => cf f args lent κ
  | false => cf f args lent κ
theorem F29_d (k : Nat) (h : ∀ (a0 : T14) (b0_0 : ByteArray) (κ : Res → Option Res), (ev Try.prog cfg k).call 29 [.list (.pair .str (.pair (.list .str) (.pair .bool (.pair (.int .i64) (.pair (.int .i64) (.list (.pair (.int .i64) (.pair (.pair (.int .i64) (.pair (.int .i64) (.pair .str .bool))) (.pair .str .str))))))))) a0 .no, .fn 30 [.ref 0 0]] [[.str b0_0]] κ = F29 k a0 b0_0 (fun x => κ ((.int .i64 x.1, [[.str x.2]]) : Res))) : F29_m (F29 k) (ev Try.prog cfg k).call = (ev Try.prog cfg k).call := by
  funext f args lent κ
  unfold F29_m
  split
  · rename_i hp
    split
    · rename_i hs
      rw [Bool.and_eq_true] at hs
      have e : mkC F29_s 0 args = [.list (.pair .str (.pair (.list .str) (.pair .bool (.pair (.int .i64) (.pair (.int .i64) (.list (.pair (.int .i64) (.pair (.pair (.int .i64) (.pair (.int .i64) (.pair .str .bool))) (.pair .str .str))))))))) (listOf (.pair .str (.pair (.list .str) (.pair .bool (.pair (.int .i64) (.pair (.int .i64) (.list (.pair (.int .i64) (.pair (.pair (.int .i64) (.pair (.int .i64) (.pair .str .bool))) (.pair .str .str))))))))) (nth args 0)) .no, .fn 30 [.ref 0 0]] := by kernel_rfl
      have e' : mkB F29_b 0 lent = [[.str (stringOf (nth (nthB lent 0) 0))]] := by kernel_rfl
      obtain rfl := Nat.eq_of_beq_eq_true hp
      exact (h (listOf (.pair .str (.pair (.list .str) (.pair .bool (.pair (.int .i64) (.pair (.int .i64) (.list (.pair (.int .i64) (.pair (.pair (.int .i64) (.pair (.int .i64) (.pair .str .bool))) (.pair .str .str))))))))) (nth args 0)) (stringOf (nth (nthB lent 0) 0)) κ).symm.trans (cong2 (fun a l => (ev Try.prog cfg k).call 29 a l κ) (e.symm.trans (okC_eq hs.1).symm) (e'.symm.trans (okB_eq hs.2).symm))
    · rfl
  · rfl
theorem F29_k (gF30 : tF30) (gL29_0 : tL29_0) (cf : CallF) (lf : LoopF) (a0 : T14) (b0_0 : ByteArray) (κ : Res → Option Res) : evFn Try.prog cfg (F30_m gF30 cf) (L29_0_m gL29_0 lf) 29 [.list (.pair .str (.pair (.list .str) (.pair .bool (.pair (.int .i64) (.pair (.int .i64) (.list (.pair (.int .i64) (.pair (.pair (.int .i64) (.pair (.int .i64) (.pair .str .bool))) (.pair .str .str))))))))) a0 .no, .fn 30 [.ref 0 0]] [[.str b0_0]] κ = F29_B gF30 gL29_0 a0 b0_0 (fun x => κ ((.int .i64 x.1, [[.str x.2]]) : Res)) := by
  kernel_rfl
theorem F29_ev : ∀ (k : Nat) (a0 : T14) (b0_0 : ByteArray) (κ : Res → Option Res), (ev Try.prog cfg k).call 29 [.list (.pair .str (.pair (.list .str) (.pair .bool (.pair (.int .i64) (.pair (.int .i64) (.list (.pair (.int .i64) (.pair (.pair (.int .i64) (.pair (.int .i64) (.pair .str .bool))) (.pair .str .str))))))))) a0 .no, .fn 30 [.ref 0 0]] [[.str b0_0]] κ = F29 k a0 b0_0 (fun x => κ ((.int .i64 x.1, [[.str x.2]]) : Res)) := by
  intro k
  induction k with
  | zero => intros; rfl
  | succ k ih =>
    intro a0 b0_0 κ
    refine (ev_call' Try.prog cfg k 29 1 _ _ κ (by rfl)).trans ?_
    rw [← F30_d k (F30_ev k), ← L29_0_d k κ (L29_0_ev k κ)]
    exact F29_k _ _ _ _ a0 b0_0 κ
def F22_B (gF29 : tF29) (a0 : T15) (a1 : ByteArray) (κ : Int → Option Res) : Option Res :=
  chk4 (gF29 a0.1 a1 fun x1 =>
   chk1 (κ x1.1))
/-- lamplighter/pat.Find -/
def F22 : Nat → T15 → ByteArray → (Int → Option Res) → Option Res
  | 0, _, _, _ => none
  | k + 1, a0, a1, κ => F22_B (F29 k) a0 a1 κ
def F22_s : List SC := [.agg [.list (.pair .str (.pair (.list .str) (.pair .bool (.pair (.int .i64) (.pair (.int .i64) (.list (.pair (.int .i64) (.pair (.pair (.int .i64) (.pair (.int .i64) (.pair .str .bool))) (.pair .str .str))))))))) .no, .int .i64, .int .i64], .one .str]
def F22_b : List (List SC) := []
def F22_m (g : T15 → ByteArray → (Int → Option Res) → Option Res) (cf : CallF) : CallF := fun f args lent κ => match Nat.beq f 22 with
  | true => match okC F22_s args && okB F22_b lent with
    | true => g ((listOf (.pair .str (.pair (.list .str) (.pair .bool (.pair (.int .i64) (.pair (.int .i64) (.list (.pair (.int .i64) (.pair (.pair (.int .i64) (.pair (.int .i64) (.pair .str .bool))) (.pair .str .str))))))))) (nth (aggOf (nth args 0)) 0)), ((intOf (nth (aggOf (nth args 0)) 1)), (intOf (nth (aggOf (nth args 0)) 2)))) (stringOf (nth args 1)) (fun x => κ ((.int .i64 x, []) : Res))
    | false => cf f args lent κ
  | false => cf f args lent κ
theorem F22_d (k : Nat) (h : ∀ (a0 : T15) (a1 : ByteArray) (κ : Res → Option Res), (ev Try.prog cfg k).call 22 [.agg [.list (.pair .str (.pair (.list .str) (.pair .bool (.pair (.int .i64) (.pair (.int .i64) (.list (.pair (.int .i64) (.pair (.pair (.int .i64) (.pair (.int .i64) (.pair .str .bool))) (.pair .str .str))))))))) a0.1 .no, .int .i64 a0.2.1, .int .i64 a0.2.2], .str a1] [] κ = F22 k a0 a1 (fun x => κ ((.int .i64 x, []) : Res))) : F22_m (F22 k) (ev Try.prog cfg k).call = (ev Try.prog cfg k).call := by
  funext f args lent κ
  unfold F22_m
  split
  · rename_i hp
    split
    · rename_i hs
      rw [Bool.and_eq_true] at hs
      have e : mkC F22_s 0 args = [.agg [.list (.pair .str (.pair (.list .str) (.pair .bool (.pair (.int .i64) (.pair (.int .i64) (.list (.pair (.int .i64) (.pair (.pair (.int .i64) (.pair (.int .i64) (.pair .str .bool))) (.pair .str .str))))))))) (listOf (.pair .str (.pair (.list .str) (.pair .bool (.pair (.int .i64) (.pair (.int .i64) (.list (.pair (.int .i64) (.pair (.pair (.int .i64) (.pair (.int .i64) (.pair .str .bool))) (.pair .str .str))))))))) (nth (aggOf (nth args 0)) 0)) .no, .int .i64 (intOf (nth (aggOf (nth args 0)) 1)), .int .i64 (intOf (nth (aggOf (nth args 0)) 2))], .str (stringOf (nth args 1))] := by kernel_rfl
      have e' : mkB F22_b 0 lent = [] := by kernel_rfl
      obtain rfl := Nat.eq_of_beq_eq_true hp
      exact (h ((listOf (.pair .str (.pair (.list .str) (.pair .bool (.pair (.int .i64) (.pair (.int .i64) (.list (.pair (.int .i64) (.pair (.pair (.int .i64) (.pair (.int .i64) (.pair .str .bool))) (.pair .str .str))))))))) (nth (aggOf (nth args 0)) 0)), ((intOf (nth (aggOf (nth args 0)) 1)), (intOf (nth (aggOf (nth args 0)) 2)))) (stringOf (nth args 1)) κ).symm.trans (cong2 (fun a l => (ev Try.prog cfg k).call 22 a l κ) (e.symm.trans (okC_eq hs.1).symm) (e'.symm.trans (okB_eq hs.2).symm))
    · rfl
  · rfl
theorem F22_k (gF29 : tF29) (cf : CallF) (lf : LoopF) (a0 : T15) (a1 : ByteArray) (κ : Res → Option Res) : evFn Try.prog cfg (F29_m gF29 cf) lf 22 [.agg [.list (.pair .str (.pair (.list .str) (.pair .bool (.pair (.int .i64) (.pair (.int .i64) (.list (.pair (.int .i64) (.pair (.pair (.int .i64) (.pair (.int .i64) (.pair .str .bool))) (.pair .str .str))))))))) a0.1 .no, .int .i64 a0.2.1, .int .i64 a0.2.2], .str a1] [] κ = F22_B gF29 a0 a1 (fun x => κ ((.int .i64 x, []) : Res)) := by
  kernel_rfl
theorem F22_ev : ∀ (k : Nat) (a0 : T15) (a1 : ByteArray) (κ : Res → Option Res), (ev Try.prog cfg k).call 22 [.agg [.list (.pair .str (.pair (.list .str) (.pair .bool (.pair (.int .i64) (.pair (.int .i64) (.list (.pair (.int .i64) (.pair (.pair (.int .i64) (.pair (.int .i64) (.pair .str .bool))) (.pair .str .str))))))))) a0.1 .no, .int .i64 a0.2.1, .int .i64 a0.2.2], .str a1] [] κ = F22 k a0 a1 (fun x => κ ((.int .i64 x, []) : Res)) := by
  intro k
  induction k with
  | zero => intros; rfl
  | succ k ih =>
    intro a0 a1 κ
    refine (ev_call' Try.prog cfg k 22 0 _ _ κ (by rfl)).trans ?_
    rw [← F29_d k (F29_ev k)]
    exact F22_k _ _ _ a0 a1 κ
def F13v1_B  (a1 : ByteArray) (κ : T4 × Bool → Option Res) : Option Res :=
  chk6 (κ (((⟨#[]⟩ : ByteArray), ([] : List (ByteArray × Int))), false))
/-- (*lamplighter/schema.Schema).Find -/
def F13v1 : Nat → ByteArray → (T4 × Bool → Option Res) → Option Res
  | 0, _, _ => none
  | k + 1, a1, κ => F13v1_B  a1 κ
def F13v1_s : List SC := [.one .nilp, .one .str]
def F13v1_b : List (List SC) := []
def F13v1_m (g : ByteArray → (T4 × Bool → Option Res) → Option Res) (cf : CallF) : CallF := fun f args lent κ => match Nat.beq f 13 with
  | true => match okC F13v1_s args && okB F13v1_b lent with
    | true => g (stringOf (nth args 1)) (fun x => κ ((.tup [.agg [.str x.1.1, .list (.pair .str (.int .i64)) x.1.2 .no], .bool x.2], []) : Res))
    | false => cf f args lent κ
  | false => cf f args lent κ
theorem F13v1_d (k : Nat) (h : ∀ (a1 : ByteArray) (κ : Res → Option Res), (ev Try.prog cfg k).call 13 [.nilp, .str a1] [] κ = F13v1 k a1 (fun x => κ ((.tup [.agg [.str x.1.1, .list (.pair .str (.int .i64)) x.1.2 .no], .bool x.2], []) : Res))) : F13v1_m (F13v1 k) (ev Try.prog cfg k).call = (ev Try.prog cfg k).call := by
  funext f args lent κ
  unfold F13v1_m
  split
  · rename_i hp
    split
    · rename_i hs
      rw [Bool.and_eq_true] at hs
      have e : mkC F13v1_s 0 args = [.nilp, .str (stringOf (nth args 1))] := by kernel_rfl
      have e' : mkB F13v1_b 0 lent = [] := by kernel_rfl
      obtain rfl := Nat.eq_of_beq_eq_true hp
      exact (h (stringOf (nth args 1)) κ).symm.trans (cong2 (fun a l => (ev Try.prog cfg k).call 13 a l κ) (e.symm.trans (okC_eq hs.1).symm) (e'.symm.trans (okB_eq hs.2).symm))
    · rfl
  · rfl
theorem F13v1_k  (cf : CallF) (lf : LoopF) (a1 : ByteArray) (κ : Res → Option Res) : evFn Try.prog cfg cf lf 13 [.nilp, .str a1] [] κ = F13v1_B  a1 (fun x => κ ((.tup [.agg [.str x.1.1, .list (.pair .str (.int .i64)) x.1.2 .no], .bool x.2], []) : Res)) := by
  kernel_rfl
theorem F13v1_ev : ∀ (k : Nat) (a1 : ByteArray) (κ : Res → Option Res), (ev Try.prog cfg k).call 13 [.nilp, .str a1] [] κ = F13v1 k a1 (fun x => κ ((.tup [.agg [.str x.1.1, .list (.pair .str (.int .i64)) x.1.2 .no], .bool x.2], []) : Res)) := by
  intro k
  induction k with
  | zero => intros; rfl
  | succ k ih =>
    intro a1 κ
    refine (ev_call' Try.prog cfg k 13 0 _ _ κ (by rfl)).trans ?_
    skip
    exact F13v1_k  _ _ a1 κ
def L31_0_B (gL31_0 : tL31_0) (κ : Int → Option Res) (p0 : (List ByteArray)) (p1 : ByteArray) (p2 : Int) (p3 : Int) (K : Int → Option Res) : Option Res :=
  chk1 (if decide (p3 < p2) = true then
    (if (true && (decide ((0 : Int) ≤ p3) && decide (p3 < (p0.length : Int)))) = true then
     (chk1 (if (p1.toList == (p0.getD p3.toNat (⟨#[]⟩ : ByteArray)).toList) = true then
       (κ p3)
      else
       (chk1 (gL31_0 p0 p1 p2 (IntKind.wrap .i64 (p3 + (1 : Int))) K))))
    else
     (none))
   else
    (K p3))
def L31_0 : Nat → (Int → Option Res) → (List ByteArray) → ByteArray → Int → Int → (Int → Option Res) → Option Res
  | 0, _, _, _, _, _, _ => none
  | k + 1, κ, p0, p1, p2, p3, K => L31_0_B (fun p0 p1 p2 p3 K => L31_0 k κ p0 p1 p2 p3 K) κ p0 p1 p2 p3 K
def L31_0_s : Tr SC := Tr.of (nthD (.one .undef) [.one (.list .str .no), .one .str, .one .undef, .one .undef, .one .undef, .one .undef, .one .undef, .one (.int .i64), .one (.int .i64)]) 5
def L31_0_b : Tr (List SC) := Tr.of (nthD [] []) 5
def L31_0_m (g : (List ByteArray) → ByteArray → Int → Int → (Int → Option Res) → Option Res) (lf : LoopF) : LoopF := fun p σ K => match pathEq p [true, false, true, false] with
  | true => match okSt 19 L31_0_s L31_0_b σ with
    | true => g (listOf .str (Tr.val .undef σ.slots)) (stringOf (Tr.val .undef (Tr.lft σ.slots))) (intOf (Tr.val .undef (Tr.lft (Tr.lft (Tr.lft σ.slots))))) (intOf (Tr.val .undef (Tr.lft (Tr.lft (Tr.rgt σ.slots))))) (fun v => K (.exit 0) ⟨19, Tr.of (nthD .undef [.list .str (listOf .str (Tr.val .undef σ.slots)) .no, .str (stringOf (Tr.val .undef (Tr.lft σ.slots))), .undef, .undef, .undef, .undef, .undef, .int .i64 (intOf (Tr.val .undef (Tr.lft (Tr.lft (Tr.lft σ.slots))))), .int .i64 v]) 5, Tr.of (nthD [] []) 5⟩)
    | false => lf p σ K
  | false => lf p σ K
theorem L31_0_d (k : Nat) (κ : Res → Option Res) (h : ∀ (p0 : (List ByteArray)) (p1 : ByteArray) (p2 : Int) (p3 : Int) (K : Cont), (ev Try.prog cfg k).loop 31 0 κ [true, false, true, false] ⟨19, Tr.of (nthD .undef [.list .str p0 .no, .str p1, .undef, .undef, .undef, .undef, .undef, .int .i64 p2, .int .i64 p3]) 5, Tr.of (nthD [] []) 5⟩ K = L31_0 k (fun x => κ ((.int .i64 x, []) : Res)) p0 p1 p2 p3 (fun v => K (.exit 0) ⟨19, Tr.of (nthD .undef [.list .str p0 .no, .str p1, .undef, .undef, .undef, .undef, .undef, .int .i64 p2, .int .i64 v]) 5, Tr.of (nthD [] []) 5⟩)) : L31_0_m (L31_0 k (fun x => κ ((.int .i64 x, []) : Res))) ((ev Try.prog cfg k).loop 31 0 κ) = (ev Try.prog cfg k).loop 31 0 κ := by
  funext p σ K
  unfold L31_0_m
  split
  · rename_i hp
    split
    · rename_i hs
      have e : mkSt 19 L31_0_s L31_0_b σ = ⟨19, Tr.of (nthD .undef [.list .str (listOf .str (Tr.val .undef σ.slots)) .no, .str (stringOf (Tr.val .undef (Tr.lft σ.slots))), .undef, .undef, .undef, .undef, .undef, .int .i64 (intOf (Tr.val .undef (Tr.lft (Tr.lft (Tr.lft σ.slots))))), .int .i64 (intOf (Tr.val .undef (Tr.lft (Tr.lft (Tr.rgt σ.slots)))))]) 5, Tr.of (nthD [] []) 5⟩ := by kernel_rfl
      rw [pathEq_eq hp]
      exact (h (listOf .str (Tr.val .undef σ.slots)) (stringOf (Tr.val .undef (Tr.lft σ.slots))) (intOf (Tr.val .undef (Tr.lft (Tr.lft (Tr.lft σ.slots))))) (intOf (Tr.val .undef (Tr.lft (Tr.lft (Tr.rgt σ.slots))))) K).symm.trans (congrArg (fun s => (ev Try.prog cfg k).loop 31 0 κ [true, false, true, false] s K) (e.symm.trans (okSt_eq hs).symm))
    · rfl
  · rfl
theorem L31_0_k (gL31_0 : tL31_0) (cf : CallF) (lf : LoopF) (κ : Res → Option Res) (p0 : (List ByteArray)) (p1 : ByteArray) (p2 : Int) (p3 : Int) (K : Cont) : evLp Try.prog cfg cf (L31_0_m gL31_0 lf) 31 0 κ [true, false, true, false] ⟨19, Tr.of (nthD .undef [.list .str p0 .no, .str p1, .undef, .undef, .undef, .undef, .undef, .int .i64 p2, .int .i64 p3]) 5, Tr.of (nthD [] []) 5⟩ K = L31_0_B gL31_0 (fun x => κ ((.int .i64 x, []) : Res)) p0 p1 p2 p3 (fun v => K (.exit 0) ⟨19, Tr.of (nthD .undef [.list .str p0 .no, .str p1, .undef, .undef, .undef, .undef, .undef, .int .i64 p2, .int .i64 v]) 5, Tr.of (nthD [] []) 5⟩) := by
  kernel_rfl
theorem L31_0_ev : ∀ (k : Nat) (κ : Res → Option Res) (p0 : (List ByteArray)) (p1 : ByteArray) (p2 : Int) (p3 : Int) (K : Cont), (ev Try.prog cfg k).loop 31 0 κ [true, false, true, false] ⟨19, Tr.of (nthD .undef [.list .str p0 .no, .str p1, .undef, .undef, .undef, .undef, .undef, .int .i64 p2, .int .i64 p3]) 5, Tr.of (nthD [] []) 5⟩ K = L31_0 k (fun x => κ ((.int .i64 x, []) : Res)) p0 p1 p2 p3 (fun v => K (.exit 0) ⟨19, Tr.of (nthD .undef [.list .str p0 .no, .str p1, .undef, .undef, .undef, .undef, .undef, .int .i64 p2, .int .i64 v]) 5, Tr.of (nthD [] []) 5⟩) := by
  intro k κ
  induction k with
  | zero => intro p0 p1 p2 p3 K; rfl
  | succ k ih =>
    intro p0 p1 p2 p3 K
    rw [ev_loop, ← L31_0_d k κ ih]
    exact L31_0_k _ _ _ κ p0 p1 p2 p3 K
def F31_B (gL31_0 : tL31_0) (a0 : (List ByteArray)) (a1 : ByteArray) (κ : Int → Option Res) : Option Res :=
  chk1 (gL31_0 a0 a1 (a0.length : Int) (0 : Int) fun v1 =>
   κ (-1 : Int))
/-- slices.Index[[]string,string] -/
def F31 : Nat → (List ByteArray) → ByteArray → (Int → Option Res) → Option Res
  | 0, _, _, _ => none
  | k + 1, a0, a1, κ => F31_B (L31_0 k κ) a0 a1 κ
def F31_s : List SC := [.one (.list .str .no), .one .str]
def F31_b : List (List SC) := []
def F31_m (g : (List ByteArray) → ByteArray → (Int → Option Res) → Option Res) (cf : CallF) : CallF := fun f args lent κ => match Nat.beq f 31 with
  | true => match okC F31_s args && okB F31_b lent with
    | true => g (listOf .str (nth args 0)) (stringOf (nth args 1)) (fun x => κ ((.int .i64 x, []) : Res))
    | false => cf f args lent κ
  | false => cf f args lent κ
theorem F31_d (k : Nat) (h : ∀ (a0 : (List ByteArray)) (a1 : ByteArray) (κ : Res → Option Res), (ev Try.prog cfg k).call 31 [.list .str a0 .no, .str a1] [] κ = F31 k a0 a1 (fun x => κ ((.int .i64 x, []) : Res))) : F31_m (F31 k) (ev Try.prog cfg k).call = (ev Try.prog cfg k).call := by
  funext f args lent κ
  unfold F31_m
  split
  · rename_i hp
    split
    · rename_i hs
      rw [Bool.and_eq_true] at hs
      have e : mkC F31_s 0 args = [.list .str (listOf .str (nth args 0)) .no, .str (stringOf (nth args 1))] := by kernel_rfl
      have e' : mkB F31_b 0 lent = [] := by kernel_rfl
      obtain rfl := Nat.eq_of_beq_eq_true hp
      exact (h (listOf .str (nth args 0)) (stringOf (nth args 1)) κ).symm.trans (cong2 (fun a l => (ev Try.prog cfg k).call 31 a l κ) (e.symm.trans (okC_eq hs.1).symm) (e'.symm.trans (okB_eq hs.2).symm))
    · rfl
  · rfl
theorem F31_k (gL31_0 : tL31_0) (cf : CallF) (lf : LoopF) (a0 : (List ByteArray)) (a1 : ByteArray) (κ : Res → Option Res) : evFn Try.prog cfg cf (L31_0_m gL31_0 lf) 31 [.list .str a0 .no, .str a1] [] κ = F31_B gL31_0 a0 a1 (fun x => κ ((.int .i64 x, []) : Res)) := by
  kernel_rfl
theorem F31_ev : ∀ (k : Nat) (a0 : (List ByteArray)) (a1 : ByteArray) (κ : Res → Option Res), (ev Try.prog cfg k).call 31 [.list .str a0 .no, .str a1] [] κ = F31 k a0 a1 (fun x => κ ((.int .i64 x, []) : Res)) := by
  intro k
  induction k with
  | zero => intros; rfl
  | succ k ih =>
    intro a0 a1 κ
    refine (ev_call' Try.prog cfg k 31 0 _ _ κ (by rfl)).trans ?_
    rw [← L31_0_d k κ (L31_0_ev k κ)]
    exact F31_k _ _ _ a0 a1 κ
def F23_B (gF31 : tF31) (a0 : (List ByteArray)) (a1 : ByteArray) (κ : Bool → Option Res) : Option Res :=
  chk1 (gF31 a0 a1 fun x1 =>
   chk2 (κ (decide (x1 ≥ (0 : Int)))))
/-- slices.Contains[[]string,string] -/
def F23 : Nat → (List ByteArray) → ByteArray → (Bool → Option Res) → Option Res
  | 0, _, _, _ => none
  | k + 1, a0, a1, κ => F23_B (F31 k) a0 a1 κ
def F23_s : List SC := [.one (.list .str .no), .one .str]
def F23_b : List (List SC) := []
def F23_m (g : (List ByteArray) → ByteArray → (Bool → Option Res) → Option Res) (cf : CallF) : CallF := fun f args lent κ => match Nat.beq f 23 with
  | true => match okC F23_s args && okB F23_b lent with
    | true => g (listOf .str (nth args 0)) (stringOf (nth args 1)) (fun x => κ ((.bool x, []) : Res))
    | false => cf f args lent κ
  | false => cf f args lent κ
theorem F23_d (k : Nat) (h : ∀ (a0 : (List ByteArray)) (a1 : ByteArray) (κ : Res → Option Res), (ev Try.prog cfg k).call 23 [.list .str a0 .no, .str a1] [] κ = F23 k a0 a1 (fun x => κ ((.bool x, []) : Res))) : F23_m (F23 k) (ev Try.prog cfg k).call = (ev Try.prog cfg k).call := by
  funext f args lent κ
  unfold F23_m
  split
  · rename_i hp
    split
    · rename_i hs
      rw [Bool.and_eq_true] at hs
      have e : mkC F23_s 0 args = [.list .str (listOf .str (nth args 0)) .no, .str (stringOf (nth args 1))] := by kernel_rfl
      have e' : mkB F23_b 0 lent = [] := by kernel_rfl
      obtain rfl := Nat.eq_of_beq_eq_true hp
      exact (h (listOf .str (nth args 0)) (stringOf (nth args 1)) κ).symm.trans (cong2 (fun a l => (ev Try.prog cfg k).call 23 a l κ) (e.symm.trans (okC_eq hs.1).symm) (e'.symm.trans (okB_eq hs.2).symm))
    · rfl
  · rfl
theorem F23_k (gF31 : tF31) (cf : CallF) (lf : LoopF) (a0 : (List ByteArray)) (a1 : ByteArray) (κ : Res → Option Res) : evFn Try.prog cfg (F31_m gF31 cf) lf 23 [.list .str a0 .no, .str a1] [] κ = F23_B gF31 a0 a1 (fun x => κ ((.bool x, []) : Res)) := by
  kernel_rfl
theorem F23_ev : ∀ (k : Nat) (a0 : (List ByteArray)) (a1 : ByteArray) (κ : Res → Option Res), (ev Try.prog cfg k).call 23 [.list .str a0 .no, .str a1] [] κ = F23 k a0 a1 (fun x => κ ((.bool x, []) : Res)) := by
  intro k
  induction k with
  | zero => intros; rfl
  | succ k ih =>
    intro a0 a1 κ
    refine (ev_call' Try.prog cfg k 23 0 _ _ κ (by rfl)).trans ?_
    rw [← F31_d k (F31_ev k)]
    exact F23_k _ _ _ a0 a1 κ
def L25_0_B (gL25_0 : tL25_0) (κ : T3 → Option Res) (p0 : Int) (p1 : T3) (p2 : T14) (p3 : Int) (p4 : Int) (K : T3 × Int → Option Res) : Option Res :=
  chk1 (if decide (p4 < p3) = true then
    (if (true && (decide ((0 : Int) ≤ p4) && decide (p4 < (p2.length : Int)))) = true then
     (chk4 (if (p4 == p0) = true then
       (chk1 (if (true && (true && decide ((((p2.getD p4.toNat ((⟨#[]⟩ : ByteArray), (([] : List ByteArray), (false, ((0 : Int), ((0 : Int), ([] : List T7))))))).2).1).length ≤ 1000000))) = true then chk6 (if decide ((p1.length + ([((p2.getD p4.toNat ((⟨#[]⟩ : ByteArray), (([] : List ByteArray), (false, ((0 : Int), ((0 : Int), ([] : List T7))))))).1, ((p2.getD p4.toNat ((⟨#[]⟩ : ByteArray), (([] : List ByteArray), (false, ((0 : Int), ((0 : Int), ([] : List T7))))))).2).1)] : List T1).length) * 40 ≤ 140737488355328) = true then chk1 (gL25_0 p0 (p1 ++ ([((p2.getD p4.toNat ((⟨#[]⟩ : ByteArray), (([] : List ByteArray), (false, ((0 : Int), ((0 : Int), ([] : List T7))))))).1, ((p2.getD p4.toNat ((⟨#[]⟩ : ByteArray), (([] : List ByteArray), (false, ((0 : Int), ((0 : Int), ([] : List T7))))))).2).1)] : List T1)) p2 p3 (IntKind.wrap .i64 (p4 + (1 : Int))) K) else none) else none))
      else
       (chk1 (if decide (p4 < p0) = true then
         (if (!((((p2.getD p4.toNat ((⟨#[]⟩ : ByteArray), (([] : List ByteArray), (false, ((0 : Int), ((0 : Int), ([] : List T7))))))).2).2).1)) = true then
          (chk1 (if (((((((p2.getD p4.toNat ((⟨#[]⟩ : ByteArray), (([] : List ByteArray), (false, ((0 : Int), ((0 : Int), ([] : List T7))))))).2).2).2).2).1) == (1 : Int)) = true then
            (if (true && (true && decide ((((p2.getD p4.toNat ((⟨#[]⟩ : ByteArray), (([] : List ByteArray), (false, ((0 : Int), ((0 : Int), ([] : List T7))))))).2).1).length ≤ 1000000))) = true then chk6 (if decide ((p1.length + ([((p2.getD p4.toNat ((⟨#[]⟩ : ByteArray), (([] : List ByteArray), (false, ((0 : Int), ((0 : Int), ([] : List T7))))))).1, ((p2.getD p4.toNat ((⟨#[]⟩ : ByteArray), (([] : List ByteArray), (false, ((0 : Int), ((0 : Int), ([] : List T7))))))).2).1)] : List T1).length) * 40 ≤ 140737488355328) = true then chk1 (gL25_0 p0 (p1 ++ ([((p2.getD p4.toNat ((⟨#[]⟩ : ByteArray), (([] : List ByteArray), (false, ((0 : Int), ((0 : Int), ([] : List T7))))))).1, ((p2.getD p4.toNat ((⟨#[]⟩ : ByteArray), (([] : List ByteArray), (false, ((0 : Int), ((0 : Int), ([] : List T7))))))).2).1)] : List T1)) p2 p3 (IntKind.wrap .i64 (p4 + (1 : Int))) K) else none) else none)
           else
            (chk1 (gL25_0 p0 p1 p2 p3 (IntKind.wrap .i64 (p4 + (1 : Int))) K))))
         else
          (if false = true then
           (none)
          else
           (chk1 (gL25_0 p0 p1 p2 p3 (IntKind.wrap .i64 (p4 + (1 : Int))) K))))
        else
         (if false = true then
          (none)
         else
          (if false = true then
           (none)
          else
           (chk1 (gL25_0 p0 p1 p2 p3 (IntKind.wrap .i64 (p4 + (1 : Int))) K))))))))
    else
     (none))
   else
    (K (p1, p4)))
def L25_0 : Nat → (T3 → Option Res) → Int → T3 → T14 → Int → Int → (T3 × Int → Option Res) → Option Res
  | 0, _, _, _, _, _, _, _ => none
  | k + 1, κ, p0, p1, p2, p3, p4, K => L25_0_B (fun p0 p1 p2 p3 p4 K => L25_0 k κ p0 p1 p2 p3 p4 K) κ p0 p1 p2 p3 p4 K
def L25_0_s : Tr SC := Tr.of (nthD (.one .undef) [.one .undef, .one (.int .i64), .one .undef, .one .undef, .one .undef, .one (.list (.pair .str (.list .str)) (.own false false)), .one .undef, .one .undef, .one .undef, .one (.list (.pair .str (.pair (.list .str) (.pair .bool (.pair (.int .i64) (.pair (.int .i64) (.list (.pair (.int .i64) (.pair (.pair (.int .i64) (.pair (.int .i64) (.pair .str .bool))) (.pair .str .str))))))))) .no), .one (.int .i64), .one (.int .i64)]) 6
def L25_0_b : Tr (List SC) := Tr.of (nthD [] []) 6
def L25_0_m (g : Int → T3 → T14 → Int → Int → (T3 × Int → Option Res) → Option Res) (lf : LoopF) : LoopF := fun p σ K => match pathEq p [true, true, false, true, false] with
  | true => match okSt 45 L25_0_s L25_0_b σ with
    | true => g (intOf (Tr.val .undef (Tr.lft σ.slots))) (listOf (.pair .str (.list .str)) (Tr.val .undef (Tr.rgt (Tr.lft σ.slots)))) (listOf (.pair .str (.pair (.list .str) (.pair .bool (.pair (.int .i64) (.pair (.int .i64) (.list (.pair (.int .i64) (.pair (.pair (.int .i64) (.pair (.int .i64) (.pair .str .bool))) (.pair .str .str))))))))) (Tr.val .undef (Tr.lft (Tr.rgt (Tr.lft σ.slots))))) (intOf (Tr.val .undef (Tr.lft (Tr.rgt (Tr.rgt σ.slots))))) (intOf (Tr.val .undef (Tr.rgt (Tr.lft (Tr.lft σ.slots))))) (fun v => K (.exit 0) ⟨45, Tr.of (nthD .undef [.undef, .int .i64 (intOf (Tr.val .undef (Tr.lft σ.slots))), .undef, .undef, .undef, .list (.pair .str (.list .str)) v.1 (.own false false), .undef, .undef, .undef, .list (.pair .str (.pair (.list .str) (.pair .bool (.pair (.int .i64) (.pair (.int .i64) (.list (.pair (.int .i64) (.pair (.pair (.int .i64) (.pair (.int .i64) (.pair .str .bool))) (.pair .str .str))))))))) (listOf (.pair .str (.pair (.list .str) (.pair .bool (.pair (.int .i64) (.pair (.int .i64) (.list (.pair (.int .i64) (.pair (.pair (.int .i64) (.pair (.int .i64) (.pair .str .bool))) (.pair .str .str))))))))) (Tr.val .undef (Tr.lft (Tr.rgt (Tr.lft σ.slots))))) .no, .int .i64 (intOf (Tr.val .undef (Tr.lft (Tr.rgt (Tr.rgt σ.slots))))), .int .i64 v.2]) 6, Tr.of (nthD [] []) 6⟩)
    | false => lf p σ K
  | false => lf p σ K
theorem L25_0_d (k : Nat) (κ : Res → Option Res) (h : ∀ (p0 : Int) (p1 : T3) (p2 : T14) (p3 : Int) (p4 : Int) (K : Cont), (ev Try.prog cfg k).loop 25 0 κ [true, true, false, true, false] ⟨45, Tr.of (nthD .undef [.undef, .int .i64 p0, .undef, .undef, .undef, .list (.pair .str (.list .str)) p1 (.own false false), .undef, .undef, .undef, .list (.pair .str (.pair (.list .str) (.pair .bool (.pair (.int .i64) (.pair (.int .i64) (.list (.pair (.int .i64) (.pair (.pair (.int .i64) (.pair (.int .i64) (.pair .str .bool))) (.pair .str .str))))))))) p2 .no, .int .i64 p3, .int .i64 p4]) 6, Tr.of (nthD [] []) 6⟩ K = L25_0 k (fun x => κ ((.list (.pair .str (.list .str)) x (.own false false), []) : Res)) p0 p1 p2 p3 p4 (fun v => K (.exit 0) ⟨45, Tr.of (nthD .undef [.undef, .int .i64 p0, .undef, .undef, .undef, .list (.pair .str (.list .str)) v.1 (.own false false), .undef, .undef, .undef, .list (.pair .str (.pair (.list .str) (.pair .bool (.pair (.int .i64) (.pair (.int .i64) (.list (.pair (.int .i64) (.pair (.pair (.int .i64) (.pair (.int .i64) (.pair .str .bool))) (.pair .str .str))))))))) p2 .no, .int .i64 p3, .int .i64 v.2]) 6, Tr.of (nthD [] []) 6⟩)) : L25_0_m (L25_0 k (fun x => κ ((.list (.pair .str (.list .str)) x (.own false false), []) : Res))) ((ev Try.prog cfg k).loop 25 0 κ) = (ev Try.prog cfg k).loop 25 0 κ := by
  funext p σ K
  unfold L25_0_m
  split
  · rename_i hp
    split
    · rename_i hs
      have e : mkSt 45 L25_0_s L25_0_b σ = ⟨45, Tr.of (nthD .undef [.undef, .int .i64 (intOf (Tr.val .undef (Tr.lft σ.slots))), .undef, .undef, .undef, .list (.pair .str (.list .str)) (listOf (.pair .str (.list .str)) (Tr.val .undef (Tr.rgt (Tr.lft σ.slots)))) (.own false false), .undef, .undef, .undef, .list (.pair .str (.pair (.list .str) (.pair .bool (.pair (.int .i64) (.pair (.int .i64) (.list (.pair (.int .i64) (.pair (.pair (.int .i64) (.pair (.int .i64) (.pair .str .bool))) (.pair .str .str))))))))) (listOf (.pair .str (.pair (.list .str) (.pair .bool (.pair (.int .i64) (.pair (.int .i64) (.list (.pair (.int .i64) (.pair (.pair (.int .i64) (.pair (.int .i64) (.pair .str .bool))) (.pair .str .str))))))))) (Tr.val .undef (Tr.lft (Tr.rgt (Tr.lft σ.slots))))) .no, .int .i64 (intOf (Tr.val .undef (Tr.lft (Tr.rgt (Tr.rgt σ.slots))))), .int .i64 (intOf (Tr.val .undef (Tr.rgt (Tr.lft (Tr.lft σ.slots)))))]) 6, Tr.of (nthD [] []) 6⟩ := by kernel_rfl
      rw [pathEq_eq hp]
      exact (h (intOf (Tr.val .undef (Tr.lft σ.slots))) (listOf (.pair .str (.list .str)) (Tr.val .undef (Tr.rgt (Tr.lft σ.slots)))) (listOf (.pair .str (.pair (.list .str) (.pair .bool (.pair (.int .i64) (.pair (.int .i64) (.list (.pair (.int .i64) (.pair (.pair (.int .i64) (.pair (.int .i64) (.pair .str .bool))) (.pair .str .str))))))))) (Tr.val .undef (Tr.lft (Tr.rgt (Tr.lft σ.slots))))) (intOf (Tr.val .undef (Tr.lft (Tr.rgt (Tr.rgt σ.slots))))) (intOf (Tr.val .undef (Tr.rgt (Tr.lft (Tr.lft σ.slots))))) K).symm.trans (congrArg (fun s => (ev Try.prog cfg k).loop 25 0 κ [true, true, false, true, false] s K) (e.symm.trans (okSt_eq hs).symm))
    · rfl
  · rfl
theorem L25_0_k (gL25_0 : tL25_0) (cf : CallF) (lf : LoopF) (κ : Res → Option Res) (p0 : Int) (p1 : T3) (p2 : T14) (p3 : Int) (p4 : Int) (K : Cont) : evLp Try.prog cfg cf (L25_0_m gL25_0 lf) 25 0 κ [true, true, false, true, false] ⟨45, Tr.of (nthD .undef [.undef, .int .i64 p0, .undef, .undef, .undef, .list (.pair .str (.list .str)) p1 (.own false false), .undef, .undef, .undef, .list (.pair .str (.pair (.list .str) (.pair .bool (.pair (.int .i64) (.pair (.int .i64) (.list (.pair (.int .i64) (.pair (.pair (.int .i64) (.pair (.int .i64) (.pair .str .bool))) (.pair .str .str))))))))) p2 .no, .int .i64 p3, .int .i64 p4]) 6, Tr.of (nthD [] []) 6⟩ K = L25_0_B gL25_0 (fun x => κ ((.list (.pair .str (.list .str)) x (.own false false), []) : Res)) p0 p1 p2 p3 p4 (fun v => K (.exit 0) ⟨45, Tr.of (nthD .undef [.undef, .int .i64 p0, .undef, .undef, .undef, .list (.pair .str (.list .str)) v.1 (.own false false), .undef, .undef, .undef, .list (.pair .str (.pair (.list .str) (.pair .bool (.pair (.int .i64) (.pair (.int .i64) (.list (.pair (.int .i64) (.pair (.pair (.int .i64) (.pair (.int .i64) (.pair .str .bool))) (.pair .str .str))))))))) p2 .no, .int .i64 p3, .int .i64 v.2]) 6, Tr.of (nthD [] []) 6⟩) := by
  kernel_rfl
theorem L25_0_ev : ∀ (k : Nat) (κ : Res → Option Res) (p0 : Int) (p1 : T3) (p2 : T14) (p3 : Int) (p4 : Int) (K : Cont), (ev Try.prog cfg k).loop 25 0 κ [true, true, false, true, false] ⟨45, Tr.of (nthD .undef [.undef, .int .i64 p0, .undef, .undef, .undef, .list (.pair .str (.list .str)) p1 (.own false false), .undef, .undef, .undef, .list (.pair .str (.pair (.list .str) (.pair .bool (.pair (.int .i64) (.pair (.int .i64) (.list (.pair (.int .i64) (.pair (.pair (.int .i64) (.pair (.int .i64) (.pair .str .bool))) (.pair .str .str))))))))) p2 .no, .int .i64 p3, .int .i64 p4]) 6, Tr.of (nthD [] []) 6⟩ K = L25_0 k (fun x => κ ((.list (.pair .str (.list .str)) x (.own false false), []) : Res)) p0 p1 p2 p3 p4 (fun v => K (.exit 0) ⟨45, Tr.of (nthD .undef [.undef, .int .i64 p0, .undef, .undef, .undef, .list (.pair .str (.list .str)) v.1 (.own false false), .undef, .undef, .undef, .list (.pair .str (.pair (.list .str) (.pair .bool (.pair (.int .i64) (.pair (.int .i64) (.list (.pair (.int .i64) (.pair (.pair (.int .i64) (.pair (.int .i64) (.pair .str .bool))) (.pair .str .str))))))))) p2 .no, .int .i64 p3, .int .i64 v.2]) 6, Tr.of (nthD [] []) 6⟩) := by
  intro k κ
  induction k with
  | zero => intro p0 p1 p2 p3 p4 K; rfl
  | succ k ih =>
    intro p0 p1 p2 p3 p4 K
    rw [ev_loop, ← L25_0_d k κ ih]
    exact L25_0_k _ _ _ κ p0 p1 p2 p3 p4 K
def F25_B (gL25_0 : tL25_0) (a0 : T15) (a1 : Int) (κ : T3 → Option Res) : Option Res :=
  chk2 (gL25_0 a1 ([] : List T1) a0.1 (a0.1.length : Int) (0 : Int) fun v1 =>
   κ v1.1)
/-- lamplighter/pat.Scope -/
def F25 : Nat → T15 → Int → (T3 → Option Res) → Option Res
  | 0, _, _, _ => none
  | k + 1, a0, a1, κ => F25_B (L25_0 k κ) a0 a1 κ
def F25_s : List SC := [.agg [.list (.pair .str (.pair (.list .str) (.pair .bool (.pair (.int .i64) (.pair (.int .i64) (.list (.pair (.int .i64) (.pair (.pair (.int .i64) (.pair (.int .i64) (.pair .str .bool))) (.pair .str .str))))))))) .no, .int .i64, .int .i64], .one (.int .i64)]
def F25_b : List (List SC) := []
def F25_m (g : T15 → Int → (T3 → Option Res) → Option Res) (cf : CallF) : CallF := fun f args lent κ => match Nat.beq f 25 with
  | true => match okC F25_s args && okB F25_b lent with
    | true => g ((listOf (.pair .str (.pair (.list .str) (.pair .bool (.pair (.int .i64) (.pair (.int .i64) (.list (.pair (.int .i64) (.pair (.pair (.int .i64) (.pair (.int .i64) (.pair .str .bool))) (.pair .str .str))))))))) (nth (aggOf (nth args 0)) 0)), ((intOf (nth (aggOf (nth args 0)) 1)), (intOf (nth (aggOf (nth args 0)) 2)))) (intOf (nth args 1)) (fun x => κ ((.list (.pair .str (.list .str)) x (.own false false), []) : Res))
    | false => cf f args lent κ
  | false => cf f args lent κ
theorem F25_d (k : Nat) (h : ∀ (a0 : T15) (a1 : Int) (κ : Res → Option Res), (ev Try.prog cfg k).call 25 [.agg [.list (.pair .str (.pair (.list .str) (.pair .bool (.pair (.int .i64) (.pair (.int .i64) (.list (.pair (.int .i64) (.pair (.pair (.int .i64) (.pair (.int .i64) (.pair .str .bool))) (.pair .str .str))))))))) a0.1 .no, .int .i64 a0.2.1, .int .i64 a0.2.2], .int .i64 a1] [] κ = F25 k a0 a1 (fun x => κ ((.list (.pair .str (.list .str)) x (.own false false), []) : Res))) : F25_m (F25 k) (ev Try.prog cfg k).call = (ev Try.prog cfg k).call := by
  funext f args lent κ
  unfold F25_m
  split
  · rename_i hp
    split
    · rename_i hs
      rw [Bool.and_eq_true] at hs
      have e : mkC F25_s 0 args = [.agg [.list (.pair .str (.pair (.list .str) (.pair .bool (.pair (.int .i64) (.pair (.int .i64) (.list (.pair (.int .i64) (.pair (.pair (.int .i64) (.pair (.int .i64) (.pair .str .bool))) (.pair .str .str))))))))) (listOf (.pair .str (.pair (.list .str) (.pair .bool (.pair (.int .i64) (.pair (.int .i64) (.list (.pair (.int .i64) (.pair (.pair (.int .i64) (.pair (.int .i64) (.pair .str .bool))) (.pair .str .str))))))))) (nth (aggOf (nth args 0)) 0)) .no, .int .i64 (intOf (nth (aggOf (nth args 0)) 1)), .int .i64 (intOf (nth (aggOf (nth args 0)) 2))], .int .i64 (intOf (nth args 1))] := by kernel_rfl
      have e' : mkB F25_b 0 lent = [] := by kernel_rfl
      obtain rfl := Nat.eq_of_beq_eq_true hp
      exact (h ((listOf (.pair .str (.pair (.list .str) (.pair .bool (.pair (.int .i64) (.pair (.int .i64) (.list (.pair (.int .i64) (.pair (.pair (.int .i64) (.pair (.int .i64) (.pair .str .bool))) (.pair .str .str))))))))) (nth (aggOf (nth args 0)) 0)), ((intOf (nth (aggOf (nth args 0)) 1)), (intOf (nth (aggOf (nth args 0)) 2)))) (intOf (nth args 1)) κ).symm.trans (cong2 (fun a l => (ev Try.prog cfg k).call 25 a l κ) (e.symm.trans (okC_eq hs.1).symm) (e'.symm.trans (okB_eq hs.2).symm))
    · rfl
  · rfl
theorem F25_k (gL25_0 : tL25_0) (cf : CallF) (lf : LoopF) (a0 : T15) (a1 : Int) (κ : Res → Option Res) : evFn Try.prog cfg cf (L25_0_m gL25_0 lf) 25 [.agg [.list (.pair .str (.pair (.list .str) (.pair .bool (.pair (.int .i64) (.pair (.int .i64) (.list (.pair (.int .i64) (.pair (.pair (.int .i64) (.pair (.int .i64) (.pair .str .bool))) (.pair .str .str))))))))) a0.1 .no, .int .i64 a0.2.1, .int .i64 a0.2.2], .int .i64 a1] [] κ = F25_B gL25_0 a0 a1 (fun x => κ ((.list (.pair .str (.list .str)) x (.own false false), []) : Res)) := by
  kernel_rfl
theorem F25_ev : ∀ (k : Nat) (a0 : T15) (a1 : Int) (κ : Res → Option Res), (ev Try.prog cfg k).call 25 [.agg [.list (.pair .str (.pair (.list .str) (.pair .bool (.pair (.int .i64) (.pair (.int .i64) (.list (.pair (.int .i64) (.pair (.pair (.int .i64) (.pair (.int .i64) (.pair .str .bool))) (.pair .str .str))))))))) a0.1 .no, .int .i64 a0.2.1, .int .i64 a0.2.2], .int .i64 a1] [] κ = F25 k a0 a1 (fun x => κ ((.list (.pair .str (.list .str)) x (.own false false), []) : Res)) := by
  intro k
  induction k with
  | zero => intros; rfl
  | succ k ih =>
    intro a0 a1 κ
    refine (ev_call' Try.prog cfg k 25 0 _ _ κ (by rfl)).trans ?_
    rw [← L25_0_d k κ (L25_0_ev k κ)]
    exact F25_k _ _ _ a0 a1 κ
def F33_B  (a0 : Int) (κ : Int → Option Res) : Option Res :=
  chk1 (if (a0 == (1 : Int)) = true then
    (chk1 (κ (0 : Int)))
   else
    (chk1 (if (a0 == (2 : Int)) = true then
      (κ (0 : Int))
     else
      (chk1 (if (a0 == (3 : Int)) = true then
        (chk1 (κ (1 : Int)))
       else
        (chk1 (if (a0 == (13 : Int)) = true then
          (κ (1 : Int))
         else
          (chk1 (if decide (a0 ≥ (4 : Int)) = true then
            (chk1 (if decide (a0 ≤ (15 : Int)) = true then
              (κ (2 : Int))
             else
              (κ (-1 : Int))))
           else
            (if false = true then
             (none)
            else
             (κ (-1 : Int))))))))))))
/-- lamplighter/term.Parts -/
def F33 : Nat → Int → (Int → Option Res) → Option Res
  | 0, _, _ => none
  | k + 1, a0, κ => F33_B  a0 κ
def F33_s : List SC := [.one (.int .i64)]
def F33_b : List (List SC) := []
def F33_m (g : Int → (Int → Option Res) → Option Res) (cf : CallF) : CallF := fun f args lent κ => match Nat.beq f 33 with
  | true => match okC F33_s args && okB F33_b lent with
    | true => g (intOf (nth args 0)) (fun x => κ ((.int .i64 x, []) : Res))
    | false => cf f args lent κ
  | false => cf f args lent κ
theorem F33_d (k : Nat) (h : ∀ (a0 : Int) (κ : Res → Option Res), (ev Try.prog cfg k).call 33 [.int .i64 a0] [] κ = F33 k a0 (fun x => κ ((.int .i64 x, []) : Res))) : F33_m (F33 k) (ev Try.prog cfg k).call = (ev Try.prog cfg k).call := by
  funext f args lent κ
  unfold F33_m
  split
  · rename_i hp
    split
    · rename_i hs
      rw [Bool.and_eq_true] at hs
      have e : mkC F33_s 0 args = [.int .i64 (intOf (nth args 0))] := by kernel_rfl
      have e' : mkB F33_b 0 lent = [] := by kernel_rfl
      obtain rfl := Nat.eq_of_beq_eq_true hp
      exact (h (intOf (nth args 0)) κ).symm.trans (cong2 (fun a l => (ev Try.prog cfg k).call 33 a l κ) (e.symm.trans (okC_eq hs.1).symm) (e'.symm.trans (okB_eq hs.2).symm))
    · rfl
  · rfl
theorem F33_k  (cf : CallF) (lf : LoopF) (a0 : Int) (κ : Res → Option Res) : evFn Try.prog cfg cf lf 33 [.int .i64 a0] [] κ = F33_B  a0 (fun x => κ ((.int .i64 x, []) : Res)) := by
  kernel_rfl
theorem F33_ev : ∀ (k : Nat) (a0 : Int) (κ : Res → Option Res), (ev Try.prog cfg k).call 33 [.int .i64 a0] [] κ = F33 k a0 (fun x => κ ((.int .i64 x, []) : Res)) := by
  intro k
  induction k with
  | zero => intros; rfl
  | succ k ih =>
    intro a0 κ
    refine (ev_call' Try.prog cfg k 33 0 _ _ κ (by rfl)).trans ?_
    skip
    exact F33_k  _ _ a0 κ
def F46_B  (a0 : Int) (κ : T2 → Option Res) : Option Res :=
  chk6 (κ ((1 : Int), (a0, ((⟨#[]⟩ : ByteArray), false))))
/-- lamplighter/value.Num -/
def F46 : Nat → Int → (T2 → Option Res) → Option Res
  | 0, _, _ => none
  | k + 1, a0, κ => F46_B  a0 κ
def F46_s : List SC := [.one (.int .i64)]
def F46_b : List (List SC) := []
def F46_m (g : Int → (T2 → Option Res) → Option Res) (cf : CallF) : CallF := fun f args lent κ => match Nat.beq f 46 with
  | true => match okC F46_s args && okB F46_b lent with
    | true => g (intOf (nth args 0)) (fun x => κ ((.agg [.int .i64 x.1, .int .i64 x.2.1, .str x.2.2.1, .bool x.2.2.2], []) : Res))
    | false => cf f args lent κ
  | false => cf f args lent κ
theorem F46_d (k : Nat) (h : ∀ (a0 : Int) (κ : Res → Option Res), (ev Try.prog cfg k).call 46 [.int .i64 a0] [] κ = F46 k a0 (fun x => κ ((.agg [.int .i64 x.1, .int .i64 x.2.1, .str x.2.2.1, .bool x.2.2.2], []) : Res))) : F46_m (F46 k) (ev Try.prog cfg k).call = (ev Try.prog cfg k).call := by
  funext f args lent κ
  unfold F46_m
  split
  · rename_i hp
    split
    · rename_i hs
      rw [Bool.and_eq_true] at hs
      have e : mkC F46_s 0 args = [.int .i64 (intOf (nth args 0))] := by kernel_rfl
      have e' : mkB F46_b 0 lent = [] := by kernel_rfl
      obtain rfl := Nat.eq_of_beq_eq_true hp
      exact (h (intOf (nth args 0)) κ).symm.trans (cong2 (fun a l => (ev Try.prog cfg k).call 46 a l κ) (e.symm.trans (okC_eq hs.1).symm) (e'.symm.trans (okB_eq hs.2).symm))
    · rfl
  · rfl
theorem F46_k  (cf : CallF) (lf : LoopF) (a0 : Int) (κ : Res → Option Res) : evFn Try.prog cfg cf lf 46 [.int .i64 a0] [] κ = F46_B  a0 (fun x => κ ((.agg [.int .i64 x.1, .int .i64 x.2.1, .str x.2.2.1, .bool x.2.2.2], []) : Res)) := by
  kernel_rfl
theorem F46_ev : ∀ (k : Nat) (a0 : Int) (κ : Res → Option Res), (ev Try.prog cfg k).call 46 [.int .i64 a0] [] κ = F46 k a0 (fun x => κ ((.agg [.int .i64 x.1, .int .i64 x.2.1, .str x.2.2.1, .bool x.2.2.2], []) : Res)) := by
  intro k
  induction k with
  | zero => intros; rfl
  | succ k ih =>
    intro a0 κ
    refine (ev_call' Try.prog cfg k 46 0 _ _ κ (by rfl)).trans ?_
    skip
    exact F46_k  _ _ a0 κ
def F47_B  (a0 : ByteArray) (κ : T2 → Option Res) : Option Res :=
  chk6 (κ ((2 : Int), ((0 : Int), (a0, false))))
/-- lamplighter/value.Text -/
def F47 : Nat → ByteArray → (T2 → Option Res) → Option Res
  | 0, _, _ => none
  | k + 1, a0, κ => F47_B  a0 κ
def F47_s : List SC := [.one .str]
def F47_b : List (List SC) := []
def F47_m (g : ByteArray → (T2 → Option Res) → Option Res) (cf : CallF) : CallF := fun f args lent κ => match Nat.beq f 47 with
  | true => match okC F47_s args && okB F47_b lent with
    | true => g (stringOf (nth args 0)) (fun x => κ ((.agg [.int .i64 x.1, .int .i64 x.2.1, .str x.2.2.1, .bool x.2.2.2], []) : Res))
    | false => cf f args lent κ
  | false => cf f args lent κ
theorem F47_d (k : Nat) (h : ∀ (a0 : ByteArray) (κ : Res → Option Res), (ev Try.prog cfg k).call 47 [.str a0] [] κ = F47 k a0 (fun x => κ ((.agg [.int .i64 x.1, .int .i64 x.2.1, .str x.2.2.1, .bool x.2.2.2], []) : Res))) : F47_m (F47 k) (ev Try.prog cfg k).call = (ev Try.prog cfg k).call := by
  funext f args lent κ
  unfold F47_m
  split
  · rename_i hp
    split
    · rename_i hs
      rw [Bool.and_eq_true] at hs
      have e : mkC F47_s 0 args = [.str (stringOf (nth args 0))] := by kernel_rfl
      have e' : mkB F47_b 0 lent = [] := by kernel_rfl
      obtain rfl := Nat.eq_of_beq_eq_true hp
      exact (h (stringOf (nth args 0)) κ).symm.trans (cong2 (fun a l => (ev Try.prog cfg k).call 47 a l κ) (e.symm.trans (okC_eq hs.1).symm) (e'.symm.trans (okB_eq hs.2).symm))
    · rfl
  · rfl
theorem F47_k  (cf : CallF) (lf : LoopF) (a0 : ByteArray) (κ : Res → Option Res) : evFn Try.prog cfg cf lf 47 [.str a0] [] κ = F47_B  a0 (fun x => κ ((.agg [.int .i64 x.1, .int .i64 x.2.1, .str x.2.2.1, .bool x.2.2.2], []) : Res)) := by
  kernel_rfl
theorem F47_ev : ∀ (k : Nat) (a0 : ByteArray) (κ : Res → Option Res), (ev Try.prog cfg k).call 47 [.str a0] [] κ = F47 k a0 (fun x => κ ((.agg [.int .i64 x.1, .int .i64 x.2.1, .str x.2.2.1, .bool x.2.2.2], []) : Res)) := by
  intro k
  induction k with
  | zero => intros; rfl
  | succ k ih =>
    intro a0 κ
    refine (ev_call' Try.prog cfg k 47 0 _ _ κ (by rfl)).trans ?_
    skip
    exact F47_k  _ _ a0 κ
def F48_B  (a0 : Bool) (κ : T2 → Option Res) : Option Res :=
  chk6 (κ ((3 : Int), ((0 : Int), ((⟨#[]⟩ : ByteArray), a0))))
/-- lamplighter/value.Truth -/
def F48 : Nat → Bool → (T2 → Option Res) → Option Res
  | 0, _, _ => none
  | k + 1, a0, κ => F48_B  a0 κ
def F48_s : List SC := [.one .bool]
def F48_b : List (List SC) := []
def F48_m (g : Bool → (T2 → Option Res) → Option Res) (cf : CallF) : CallF := fun f args lent κ => match Nat.beq f 48 with
  | true => match okC F48_s args && okB F48_b lent with
    | true => g (boolOf (nth args 0)) (fun x => κ ((.agg [.int .i64 x.1, .int .i64 x.2.1, .str x.2.2.1, .bool x.2.2.2], []) : Res))
    | false => cf f args lent κ
  | false => cf f args lent κ
theorem F48_d (k : Nat) (h : ∀ (a0 : Bool) (κ : Res → Option Res), (ev Try.prog cfg k).call 48 [.bool a0] [] κ = F48 k a0 (fun x => κ ((.agg [.int .i64 x.1, .int .i64 x.2.1, .str x.2.2.1, .bool x.2.2.2], []) : Res))) : F48_m (F48 k) (ev Try.prog cfg k).call = (ev Try.prog cfg k).call := by
  funext f args lent κ
  unfold F48_m
  split
  · rename_i hp
    split
    · rename_i hs
      rw [Bool.and_eq_true] at hs
      have e : mkC F48_s 0 args = [.bool (boolOf (nth args 0))] := by kernel_rfl
      have e' : mkB F48_b 0 lent = [] := by kernel_rfl
      obtain rfl := Nat.eq_of_beq_eq_true hp
      exact (h (boolOf (nth args 0)) κ).symm.trans (cong2 (fun a l => (ev Try.prog cfg k).call 48 a l κ) (e.symm.trans (okC_eq hs.1).symm) (e'.symm.trans (okB_eq hs.2).symm))
    · rfl
  · rfl
theorem F48_k  (cf : CallF) (lf : LoopF) (a0 : Bool) (κ : Res → Option Res) : evFn Try.prog cfg cf lf 48 [.bool a0] [] κ = F48_B  a0 (fun x => κ ((.agg [.int .i64 x.1, .int .i64 x.2.1, .str x.2.2.1, .bool x.2.2.2], []) : Res)) := by
  kernel_rfl
theorem F48_ev : ∀ (k : Nat) (a0 : Bool) (κ : Res → Option Res), (ev Try.prog cfg k).call 48 [.bool a0] [] κ = F48 k a0 (fun x => κ ((.agg [.int .i64 x.1, .int .i64 x.2.1, .str x.2.2.1, .bool x.2.2.2], []) : Res)) := by
  intro k
  induction k with
  | zero => intros; rfl
  | succ k ih =>
    intro a0 κ
    refine (ev_call' Try.prog cfg k 48 0 _ _ κ (by rfl)).trans ?_
    skip
    exact F48_k  _ _ a0 κ
def F44_B (gF46 : tF46) (gF47 : tF47) (gF48 : tF48) (a0 : T2) (κ : Bool → Option Res) : Option Res :=
  chk2 (if (a0.1 == (1 : Int)) = true then
    (chk1 (gF46 a0.2.1 fun x1 =>
     chk2 (κ ((a0.1 == x1.1) && ((a0.2.1 == x1.2.1) && ((a0.2.2.1 == x1.2.2.1) && (a0.2.2.2 == x1.2.2.2)))))))
   else
    (chk1 (if (a0.1 == (2 : Int)) = true then
      (chk1 (gF47 a0.2.2.1 fun x2 =>
       chk2 (if ((a0.1 == x2.1) && ((a0.2.1 == x2.2.1) && ((a0.2.2.1 == x2.2.2.1) && (a0.2.2.2 == x2.2.2.2)))) = true then
         (chk2 (κ (decide ((a0.2.2.1.size : Int) ≤ (64 : Int)))))
        else
         (κ false))))
     else
      (chk1 (if (a0.1 == (3 : Int)) = true then
        (chk1 (gF48 a0.2.2.2 fun x3 =>
         chk2 (κ ((a0.1 == x3.1) && ((a0.2.1 == x3.2.1) && ((a0.2.2.1 == x3.2.2.1) && (a0.2.2.2 == x3.2.2.2)))))))
       else
        (κ false))))))
/-- lamplighter/value.May -/
def F44 : Nat → T2 → (Bool → Option Res) → Option Res
  | 0, _, _ => none
  | k + 1, a0, κ => F44_B (F46 k) (F47 k) (F48 k) a0 κ
def F44_s : List SC := [.agg [.int .i64, .int .i64, .str, .bool]]
def F44_b : List (List SC) := []
def F44_m (g : T2 → (Bool → Option Res) → Option Res) (cf : CallF) : CallF := fun f args lent κ => match Nat.beq f 44 with
  | true => match okC F44_s args && okB F44_b lent with
    | true => g ((intOf (nth (aggOf (nth args 0)) 0)), ((intOf (nth (aggOf (nth args 0)) 1)), ((stringOf (nth (aggOf (nth args 0)) 2)), (boolOf (nth (aggOf (nth args 0)) 3))))) (fun x => κ ((.bool x, []) : Res))
    | false => cf f args lent κ
  | false => cf f args lent κ
theorem F44_d (k : Nat) (h : ∀ (a0 : T2) (κ : Res → Option Res), (ev Try.prog cfg k).call 44 [.agg [.int .i64 a0.1, .int .i64 a0.2.1, .str a0.2.2.1, .bool a0.2.2.2]] [] κ = F44 k a0 (fun x => κ ((.bool x, []) : Res))) : F44_m (F44 k) (ev Try.prog cfg k).call = (ev Try.prog cfg k).call := by
  funext f args lent κ
  unfold F44_m
  split
  · rename_i hp
    split
    · rename_i hs
      rw [Bool.and_eq_true] at hs
      have e : mkC F44_s 0 args = [.agg [.int .i64 (intOf (nth (aggOf (nth args 0)) 0)), .int .i64 (intOf (nth (aggOf (nth args 0)) 1)), .str (stringOf (nth (aggOf (nth args 0)) 2)), .bool (boolOf (nth (aggOf (nth args 0)) 3))]] := by kernel_rfl
      have e' : mkB F44_b 0 lent = [] := by kernel_rfl
      obtain rfl := Nat.eq_of_beq_eq_true hp
      exact (h ((intOf (nth (aggOf (nth args 0)) 0)), ((intOf (nth (aggOf (nth args 0)) 1)), ((stringOf (nth (aggOf (nth args 0)) 2)), (boolOf (nth (aggOf (nth args 0)) 3))))) κ).symm.trans (cong2 (fun a l => (ev Try.prog cfg k).call 44 a l κ) (e.symm.trans (okC_eq hs.1).symm) (e'.symm.trans (okB_eq hs.2).symm))
    · rfl
  · rfl
theorem F44_k (gF46 : tF46) (gF47 : tF47) (gF48 : tF48) (cf : CallF) (lf : LoopF) (a0 : T2) (κ : Res → Option Res) : evFn Try.prog cfg (F46_m gF46 (F47_m gF47 (F48_m gF48 cf))) lf 44 [.agg [.int .i64 a0.1, .int .i64 a0.2.1, .str a0.2.2.1, .bool a0.2.2.2]] [] κ = F44_B gF46 gF47 gF48 a0 (fun x => κ ((.bool x, []) : Res)) := by
  kernel_rfl
theorem F44_ev : ∀ (k : Nat) (a0 : T2) (κ : Res → Option Res), (ev Try.prog cfg k).call 44 [.agg [.int .i64 a0.1, .int .i64 a0.2.1, .str a0.2.2.1, .bool a0.2.2.2]] [] κ = F44 k a0 (fun x => κ ((.bool x, []) : Res)) := by
  intro k
  induction k with
  | zero => intros; rfl
  | succ k ih =>
    intro a0 κ
    refine (ev_call' Try.prog cfg k 44 0 _ _ κ (by rfl)).trans ?_
    rw [← F46_d k (F46_ev k), ← F47_d k (F47_ev k), ← F48_d k (F48_ev k)]
    exact F44_k _ _ _ _ _ a0 κ
def F37_B (gF44 : tF44) (gF11 : tF11) (a0 : T7) (κ : Bool → Option Res) : Option Res :=
  chk2 (if (a0.1 == (1 : Int)) = true then
    (chk1 (gF44 a0.2.1 fun x1 =>
     chk1 (if x1 = true then
       (chk1 (if (a0.2.1.2.1 != (-9223372036854775808 : Int)) = true then
         (chk1 (if (a0.2.2.1.toList == (⟨#[]⟩ : ByteArray).toList) = true then
           (chk1 (κ (a0.2.2.2.toList == (⟨#[]⟩ : ByteArray).toList)))
          else
           (κ false)))
        else
         (if false = true then
          (none)
         else
          (κ false))))
      else
       (if false = true then
        (none)
       else
        (if false = true then
         (none)
        else
         (κ false))))))
   else
    (chk1 (if (a0.1 == (2 : Int)) = true then
      (chk2 (if ((a0.2.1.1 == (0 : Int)) && ((a0.2.1.2.1 == (0 : Int)) && ((a0.2.1.2.2.1 == (⟨#[]⟩ : ByteArray)) && (a0.2.1.2.2.2 == false)))) = true then
        (chk1 (gF11 a0.2.2.1 fun x2 =>
         chk1 (if x2 = true then
           (chk1 (gF11 a0.2.2.2 fun x3 =>
            chk1 (κ x3)))
          else
           (κ false))))
       else
        (if false = true then
         (none)
        else
         (κ false))))
     else
      (chk3 (κ ((a0.1 == a0.1) && (((a0.2.1.1 == (0 : Int)) && ((a0.2.1.2.1 == (0 : Int)) && ((a0.2.1.2.2.1 == (⟨#[]⟩ : ByteArray)) && (a0.2.1.2.2.2 == false)))) && ((a0.2.2.1 == (⟨#[]⟩ : ByteArray)) && (a0.2.2.2 == (⟨#[]⟩ : ByteArray))))))))))
/-- lamplighter/term.node -/
def F37 : Nat → T7 → (Bool → Option Res) → Option Res
  | 0, _, _ => none
  | k + 1, a0, κ => F37_B (F44 k) (F11 k) a0 κ
def F37_s : List SC := [.agg [.int .i64, .int .i64, .int .i64, .str, .bool, .str, .str]]
def F37_b : List (List SC) := []
def F37_m (g : T7 → (Bool → Option Res) → Option Res) (cf : CallF) : CallF := fun f args lent κ => match Nat.beq f 37 with
  | true => match okC F37_s args && okB F37_b lent with
    | true => g ((intOf (nth (aggOf (nth args 0)) 0)), (((intOf (nth (aggOf (nth args 0)) 1)), ((intOf (nth (aggOf (nth args 0)) 2)), ((stringOf (nth (aggOf (nth args 0)) 3)), (boolOf (nth (aggOf (nth args 0)) 4))))), ((stringOf (nth (aggOf (nth args 0)) 5)), (stringOf (nth (aggOf (nth args 0)) 6))))) (fun x => κ ((.bool x, []) : Res))
    | false => cf f args lent κ
  | false => cf f args lent κ
theorem F37_d (k : Nat) (h : ∀ (a0 : T7) (κ : Res → Option Res), (ev Try.prog cfg k).call 37 [.agg [.int .i64 a0.1, .int .i64 a0.2.1.1, .int .i64 a0.2.1.2.1, .str a0.2.1.2.2.1, .bool a0.2.1.2.2.2, .str a0.2.2.1, .str a0.2.2.2]] [] κ = F37 k a0 (fun x => κ ((.bool x, []) : Res))) : F37_m (F37 k) (ev Try.prog cfg k).call = (ev Try.prog cfg k).call := by
  funext f args lent κ
  unfold F37_m
  split
  · rename_i hp
    split
    · rename_i hs
      rw [Bool.and_eq_true] at hs
      have e : mkC F37_s 0 args = [.agg [.int .i64 (intOf (nth (aggOf (nth args 0)) 0)), .int .i64 (intOf (nth (aggOf (nth args 0)) 1)), .int .i64 (intOf (nth (aggOf (nth args 0)) 2)), .str (stringOf (nth (aggOf (nth args 0)) 3)), .bool (boolOf (nth (aggOf (nth args 0)) 4)), .str (stringOf (nth (aggOf (nth args 0)) 5)), .str (stringOf (nth (aggOf (nth args 0)) 6))]] := by kernel_rfl
      have e' : mkB F37_b 0 lent = [] := by kernel_rfl
      obtain rfl := Nat.eq_of_beq_eq_true hp
      exact (h ((intOf (nth (aggOf (nth args 0)) 0)), (((intOf (nth (aggOf (nth args 0)) 1)), ((intOf (nth (aggOf (nth args 0)) 2)), ((stringOf (nth (aggOf (nth args 0)) 3)), (boolOf (nth (aggOf (nth args 0)) 4))))), ((stringOf (nth (aggOf (nth args 0)) 5)), (stringOf (nth (aggOf (nth args 0)) 6))))) κ).symm.trans (cong2 (fun a l => (ev Try.prog cfg k).call 37 a l κ) (e.symm.trans (okC_eq hs.1).symm) (e'.symm.trans (okB_eq hs.2).symm))
    · rfl
  · rfl
theorem F37_k (gF44 : tF44) (gF11 : tF11) (cf : CallF) (lf : LoopF) (a0 : T7) (κ : Res → Option Res) : evFn Try.prog cfg (F44_m gF44 (F11_m gF11 cf)) lf 37 [.agg [.int .i64 a0.1, .int .i64 a0.2.1.1, .int .i64 a0.2.1.2.1, .str a0.2.1.2.2.1, .bool a0.2.1.2.2.2, .str a0.2.2.1, .str a0.2.2.2]] [] κ = F37_B gF44 gF11 a0 (fun x => κ ((.bool x, []) : Res)) := by
  kernel_rfl
theorem F37_ev : ∀ (k : Nat) (a0 : T7) (κ : Res → Option Res), (ev Try.prog cfg k).call 37 [.agg [.int .i64 a0.1, .int .i64 a0.2.1.1, .int .i64 a0.2.1.2.1, .str a0.2.1.2.2.1, .bool a0.2.1.2.2.2, .str a0.2.2.1, .str a0.2.2.2]] [] κ = F37 k a0 (fun x => κ ((.bool x, []) : Res)) := by
  intro k
  induction k with
  | zero => intros; rfl
  | succ k ih =>
    intro a0 κ
    refine (ev_call' Try.prog cfg k 37 0 _ _ κ (by rfl)).trans ?_
    rw [← F44_d k (F44_ev k), ← F11_d k (F11_ev k)]
    exact F37_k _ _ _ _ a0 κ
def L32_0_B (gF33 : tF33) (gF37 : tF37) (gL32_0 : tL32_0) (κ : Bool → Option Res) (p0 : Int) (p1 : T8) (p2 : Int) (p3 : Int) (K : Int × Int → Option Res) : Option Res :=
  chk1 (if decide (p3 < p2) = true then
    (if (true && (decide ((0 : Int) ≤ p3) && decide (p3 < (p1.length : Int)))) = true then
     (chk4 (gF33 ((p1.getD p3.toNat ((0 : Int), (((0 : Int), ((0 : Int), ((⟨#[]⟩ : ByteArray), false))), ((⟨#[]⟩ : ByteArray), (⟨#[]⟩ : ByteArray))))).1) fun x1 =>
      chk2 (if decide (x1 < (0 : Int)) = true then
        (chk2 (κ false))
       else
        (chk1 (gF37 ((p1.getD p3.toNat ((0 : Int), (((0 : Int), ((0 : Int), ((⟨#[]⟩ : ByteArray), false))), ((⟨#[]⟩ : ByteArray), (⟨#[]⟩ : ByteArray))))).1, (((((p1.getD p3.toNat ((0 : Int), (((0 : Int), ((0 : Int), ((⟨#[]⟩ : ByteArray), false))), ((⟨#[]⟩ : ByteArray), (⟨#[]⟩ : ByteArray))))).2).1).1, (((((p1.getD p3.toNat ((0 : Int), (((0 : Int), ((0 : Int), ((⟨#[]⟩ : ByteArray), false))), ((⟨#[]⟩ : ByteArray), (⟨#[]⟩ : ByteArray))))).2).1).2).1, (((((p1.getD p3.toNat ((0 : Int), (((0 : Int), ((0 : Int), ((⟨#[]⟩ : ByteArray), false))), ((⟨#[]⟩ : ByteArray), (⟨#[]⟩ : ByteArray))))).2).1).2).2))), (((p1.getD p3.toNat ((0 : Int), (((0 : Int), ((0 : Int), ((⟨#[]⟩ : ByteArray), false))), ((⟨#[]⟩ : ByteArray), (⟨#[]⟩ : ByteArray))))).2).2))) fun x2 =>
         chk1 (if (!x2) = true then
           (chk1 (κ false))
          else
           (chk1 (if decide (p0 < x1) = true then
             (κ false)
            else
             (chk3 (gL32_0 (IntKind.wrap .i64 (p0 + (IntKind.wrap .i64 ((1 : Int) - x1)))) p1 p2 (IntKind.wrap .i64 (p3 + (1 : Int))) K))))))))))
    else
     (none))
   else
    (K (p0, p3)))
def L32_0 : Nat → (Bool → Option Res) → Int → T8 → Int → Int → (Int × Int → Option Res) → Option Res
  | 0, _, _, _, _, _, _ => none
  | k + 1, κ, p0, p1, p2, p3, K => L32_0_B (F33 k) (F37 k) (fun p0 p1 p2 p3 K => L32_0 k κ p0 p1 p2 p3 K) κ p0 p1 p2 p3 K
def L32_0_s : Tr SC := Tr.of (nthD (.one .undef) [.one .undef, .one .undef, .one .undef, .one (.int .i64), .one .undef, .one .undef, .one .undef, .one .undef, .one .undef, .one .undef, .one (.list (.pair (.int .i64) (.pair (.pair (.int .i64) (.pair (.int .i64) (.pair .str .bool))) (.pair .str .str))) .no), .one (.int .i64), .one (.int .i64)]) 6
def L32_0_b : Tr (List SC) := Tr.of (nthD [] []) 6
def L32_0_m (g : Int → T8 → Int → Int → (Int × Int → Option Res) → Option Res) (lf : LoopF) : LoopF := fun p σ K => match pathEq p [true, true, true, false, true, false] with
  | true => match okSt 38 L32_0_s L32_0_b σ with
    | true => g (intOf (Tr.val .undef (Tr.lft (Tr.lft σ.slots)))) (listOf (.pair (.int .i64) (.pair (.pair (.int .i64) (.pair (.int .i64) (.pair .str .bool))) (.pair .str .str))) (Tr.val .undef (Tr.lft (Tr.rgt (Tr.rgt σ.slots))))) (intOf (Tr.val .undef (Tr.rgt (Tr.lft (Tr.lft σ.slots))))) (intOf (Tr.val .undef (Tr.rgt (Tr.lft (Tr.rgt σ.slots))))) (fun v => K (.exit 0) ⟨38, Tr.of (nthD .undef [.undef, .undef, .undef, .int .i64 v.1, .undef, .undef, .undef, .undef, .undef, .undef, .list (.pair (.int .i64) (.pair (.pair (.int .i64) (.pair (.int .i64) (.pair .str .bool))) (.pair .str .str))) (listOf (.pair (.int .i64) (.pair (.pair (.int .i64) (.pair (.int .i64) (.pair .str .bool))) (.pair .str .str))) (Tr.val .undef (Tr.lft (Tr.rgt (Tr.rgt σ.slots))))) .no, .int .i64 (intOf (Tr.val .undef (Tr.rgt (Tr.lft (Tr.lft σ.slots))))), .int .i64 v.2]) 6, Tr.of (nthD [] []) 6⟩)
    | false => lf p σ K
  | false => lf p σ K
theorem L32_0_d (k : Nat) (κ : Res → Option Res) (h : ∀ (p0 : Int) (p1 : T8) (p2 : Int) (p3 : Int) (K : Cont), (ev Try.prog cfg k).loop 32 0 κ [true, true, true, false, true, false] ⟨38, Tr.of (nthD .undef [.undef, .undef, .undef, .int .i64 p0, .undef, .undef, .undef, .undef, .undef, .undef, .list (.pair (.int .i64) (.pair (.pair (.int .i64) (.pair (.int .i64) (.pair .str .bool))) (.pair .str .str))) p1 .no, .int .i64 p2, .int .i64 p3]) 6, Tr.of (nthD [] []) 6⟩ K = L32_0 k (fun x => κ ((.bool x, []) : Res)) p0 p1 p2 p3 (fun v => K (.exit 0) ⟨38, Tr.of (nthD .undef [.undef, .undef, .undef, .int .i64 v.1, .undef, .undef, .undef, .undef, .undef, .undef, .list (.pair (.int .i64) (.pair (.pair (.int .i64) (.pair (.int .i64) (.pair .str .bool))) (.pair .str .str))) p1 .no, .int .i64 p2, .int .i64 v.2]) 6, Tr.of (nthD [] []) 6⟩)) : L32_0_m (L32_0 k (fun x => κ ((.bool x, []) : Res))) ((ev Try.prog cfg k).loop 32 0 κ) = (ev Try.prog cfg k).loop 32 0 κ := by
  funext p σ K
  unfold L32_0_m
  split
  · rename_i hp
    split
    · rename_i hs
      have e : mkSt 38 L32_0_s L32_0_b σ = ⟨38, Tr.of (nthD .undef [.undef, .undef, .undef, .int .i64 (intOf (Tr.val .undef (Tr.lft (Tr.lft σ.slots)))), .undef, .undef, .undef, .undef, .undef, .undef, .list (.pair (.int .i64) (.pair (.pair (.int .i64) (.pair (.int .i64) (.pair .str .bool))) (.pair .str .str))) (listOf (.pair (.int .i64) (.pair (.pair (.int .i64) (.pair (.int .i64) (.pair .str .bool))) (.pair .str .str))) (Tr.val .undef (Tr.lft (Tr.rgt (Tr.rgt σ.slots))))) .no, .int .i64 (intOf (Tr.val .undef (Tr.rgt (Tr.lft (Tr.lft σ.slots))))), .int .i64 (intOf (Tr.val .undef (Tr.rgt (Tr.lft (Tr.rgt σ.slots)))))]) 6, Tr.of (nthD [] []) 6⟩ := by kernel_rfl
      rw [pathEq_eq hp]
      exact (h (intOf (Tr.val .undef (Tr.lft (Tr.lft σ.slots)))) (listOf (.pair (.int .i64) (.pair (.pair (.int .i64) (.pair (.int .i64) (.pair .str .bool))) (.pair .str .str))) (Tr.val .undef (Tr.lft (Tr.rgt (Tr.rgt σ.slots))))) (intOf (Tr.val .undef (Tr.rgt (Tr.lft (Tr.lft σ.slots))))) (intOf (Tr.val .undef (Tr.rgt (Tr.lft (Tr.rgt σ.slots))))) K).symm.trans (congrArg (fun s => (ev Try.prog cfg k).loop 32 0 κ [true, true, true, false, true, false] s K) (e.symm.trans (okSt_eq hs).symm))
    · rfl
  · rfl
theorem L32_0_k (gF33 : tF33) (gF37 : tF37) (gL32_0 : tL32_0) (cf : CallF) (lf : LoopF) (κ : Res → Option Res) (p0 : Int) (p1 : T8) (p2 : Int) (p3 : Int) (K : Cont) : evLp Try.prog cfg (F33_m gF33 (F37_m gF37 cf)) (L32_0_m gL32_0 lf) 32 0 κ [true, true, true, false, true, false] ⟨38, Tr.of (nthD .undef [.undef, .undef, .undef, .int .i64 p0, .undef, .undef, .undef, .undef, .undef, .undef, .list (.pair (.int .i64) (.pair (.pair (.int .i64) (.pair (.int .i64) (.pair .str .bool))) (.pair .str .str))) p1 .no, .int .i64 p2, .int .i64 p3]) 6, Tr.of (nthD [] []) 6⟩ K = L32_0_B gF33 gF37 gL32_0 (fun x => κ ((.bool x, []) : Res)) p0 p1 p2 p3 (fun v => K (.exit 0) ⟨38, Tr.of (nthD .undef [.undef, .undef, .undef, .int .i64 v.1, .undef, .undef, .undef, .undef, .undef, .undef, .list (.pair (.int .i64) (.pair (.pair (.int .i64) (.pair (.int .i64) (.pair .str .bool))) (.pair .str .str))) p1 .no, .int .i64 p2, .int .i64 v.2]) 6, Tr.of (nthD [] []) 6⟩) := by
  kernel_rfl
theorem L32_0_ev : ∀ (k : Nat) (κ : Res → Option Res) (p0 : Int) (p1 : T8) (p2 : Int) (p3 : Int) (K : Cont), (ev Try.prog cfg k).loop 32 0 κ [true, true, true, false, true, false] ⟨38, Tr.of (nthD .undef [.undef, .undef, .undef, .int .i64 p0, .undef, .undef, .undef, .undef, .undef, .undef, .list (.pair (.int .i64) (.pair (.pair (.int .i64) (.pair (.int .i64) (.pair .str .bool))) (.pair .str .str))) p1 .no, .int .i64 p2, .int .i64 p3]) 6, Tr.of (nthD [] []) 6⟩ K = L32_0 k (fun x => κ ((.bool x, []) : Res)) p0 p1 p2 p3 (fun v => K (.exit 0) ⟨38, Tr.of (nthD .undef [.undef, .undef, .undef, .int .i64 v.1, .undef, .undef, .undef, .undef, .undef, .undef, .list (.pair (.int .i64) (.pair (.pair (.int .i64) (.pair (.int .i64) (.pair .str .bool))) (.pair .str .str))) p1 .no, .int .i64 p2, .int .i64 v.2]) 6, Tr.of (nthD [] []) 6⟩) := by
  intro k κ
  induction k with
  | zero => intro p0 p1 p2 p3 K; rfl
  | succ k ih =>
    intro p0 p1 p2 p3 K
    rw [ev_loop, ← F33_d k (F33_ev k), ← F37_d k (F37_ev k), ← L32_0_d k κ ih]
    exact L32_0_k _ _ _ _ _ κ p0 p1 p2 p3 K
def F32_B (gF33 : tF33) (gF37 : tF37) (gL32_0 : tL32_0) (a0 : T8) (κ : Bool → Option Res) : Option Res :=
  chk2 (if decide ((a0.length : Int) > (64 : Int)) = true then
    (κ false)
   else
    (chk1 (gL32_0 (0 : Int) a0 (a0.length : Int) (0 : Int) fun v3 =>
     chk1 (κ (v3.1 == (1 : Int))))))
/-- lamplighter/term.May -/
def F32 : Nat → T8 → (Bool → Option Res) → Option Res
  | 0, _, _ => none
  | k + 1, a0, κ => F32_B (F33 k) (F37 k) (L32_0 k κ) a0 κ
def F32_s : List SC := [.one (.list (.pair (.int .i64) (.pair (.pair (.int .i64) (.pair (.int .i64) (.pair .str .bool))) (.pair .str .str))) .no)]
def F32_b : List (List SC) := []
def F32_m (g : T8 → (Bool → Option Res) → Option Res) (cf : CallF) : CallF := fun f args lent κ => match Nat.beq f 32 with
  | true => match okC F32_s args && okB F32_b lent with
    | true => g (listOf (.pair (.int .i64) (.pair (.pair (.int .i64) (.pair (.int .i64) (.pair .str .bool))) (.pair .str .str))) (nth args 0)) (fun x => κ ((.bool x, []) : Res))
    | false => cf f args lent κ
  | false => cf f args lent κ
theorem F32_d (k : Nat) (h : ∀ (a0 : T8) (κ : Res → Option Res), (ev Try.prog cfg k).call 32 [.list (.pair (.int .i64) (.pair (.pair (.int .i64) (.pair (.int .i64) (.pair .str .bool))) (.pair .str .str))) a0 .no] [] κ = F32 k a0 (fun x => κ ((.bool x, []) : Res))) : F32_m (F32 k) (ev Try.prog cfg k).call = (ev Try.prog cfg k).call := by
  funext f args lent κ
  unfold F32_m
  split
  · rename_i hp
    split
    · rename_i hs
      rw [Bool.and_eq_true] at hs
      have e : mkC F32_s 0 args = [.list (.pair (.int .i64) (.pair (.pair (.int .i64) (.pair (.int .i64) (.pair .str .bool))) (.pair .str .str))) (listOf (.pair (.int .i64) (.pair (.pair (.int .i64) (.pair (.int .i64) (.pair .str .bool))) (.pair .str .str))) (nth args 0)) .no] := by kernel_rfl
      have e' : mkB F32_b 0 lent = [] := by kernel_rfl
      obtain rfl := Nat.eq_of_beq_eq_true hp
      exact (h (listOf (.pair (.int .i64) (.pair (.pair (.int .i64) (.pair (.int .i64) (.pair .str .bool))) (.pair .str .str))) (nth args 0)) κ).symm.trans (cong2 (fun a l => (ev Try.prog cfg k).call 32 a l κ) (e.symm.trans (okC_eq hs.1).symm) (e'.symm.trans (okB_eq hs.2).symm))
    · rfl
  · rfl
theorem F32_k (gF33 : tF33) (gF37 : tF37) (gL32_0 : tL32_0) (cf : CallF) (lf : LoopF) (a0 : T8) (κ : Res → Option Res) : evFn Try.prog cfg (F33_m gF33 (F37_m gF37 cf)) (L32_0_m gL32_0 lf) 32 [.list (.pair (.int .i64) (.pair (.pair (.int .i64) (.pair (.int .i64) (.pair .str .bool))) (.pair .str .str))) a0 .no] [] κ = F32_B gF33 gF37 gL32_0 a0 (fun x => κ ((.bool x, []) : Res)) := by
  kernel_rfl
theorem F32_ev : ∀ (k : Nat) (a0 : T8) (κ : Res → Option Res), (ev Try.prog cfg k).call 32 [.list (.pair (.int .i64) (.pair (.pair (.int .i64) (.pair (.int .i64) (.pair .str .bool))) (.pair .str .str))) a0 .no] [] κ = F32 k a0 (fun x => κ ((.bool x, []) : Res)) := by
  intro k
  induction k with
  | zero => intros; rfl
  | succ k ih =>
    intro a0 κ
    refine (ev_call' Try.prog cfg k 32 0 _ _ κ (by rfl)).trans ?_
    rw [← F33_d k (F33_ev k), ← F37_d k (F37_ev k), ← L32_0_d k κ (L32_0_ev k κ)]
    exact F32_k _ _ _ _ _ a0 κ
def F39_B  (a0 : T1) (b0_0 : Int) (b0_1 : Int) (b0_2 : Int) (b0_3 : ByteArray) (b0_4 : Bool) (b0_5 : ByteArray) (b0_6 : ByteArray) (κ : Bool × Int × Int × Int × ByteArray × Bool × ByteArray × ByteArray → Option Res) : Option Res :=
  chk2 (κ ((a0.1.toList == b0_5.toList), (b0_0, (b0_1, (b0_2, (b0_3, (b0_4, (b0_5, b0_6))))))))
/-- lamplighter/typing.field$1 -/
def F39 : Nat → T1 → Int → Int → Int → ByteArray → Bool → ByteArray → ByteArray → (Bool × Int × Int × Int × ByteArray × Bool × ByteArray × ByteArray → Option Res) → Option Res
  | 0, _, _, _, _, _, _, _, _, _ => none
  | k + 1, a0, b0_0, b0_1, b0_2, b0_3, b0_4, b0_5, b0_6, κ => F39_B  a0 b0_0 b0_1 b0_2 b0_3 b0_4 b0_5 b0_6 κ
def F39_s : List SC := [.agg [.str, .list .str .no], .one (.ref 0 0)]
def F39_b : List (List SC) := [[.one (.int .i64), .one (.int .i64), .one (.int .i64), .one .str, .one .bool, .one .str, .one .str]]
def F39_m (g : T1 → Int → Int → Int → ByteArray → Bool → ByteArray → ByteArray → (Bool × Int × Int × Int × ByteArray × Bool × ByteArray × ByteArray → Option Res) → Option Res) (cf : CallF) : CallF := fun f args lent κ => match Nat.beq f 39 with
  | true => match okC F39_s args && okB F39_b lent with
    | true => g ((stringOf (nth (aggOf (nth args 0)) 0)), (listOf .str (nth (aggOf (nth args 0)) 1))) (intOf (nth (nthB lent 0) 0)) (intOf (nth (nthB lent 0) 1)) (intOf (nth (nthB lent 0) 2)) (stringOf (nth (nthB lent 0) 3)) (boolOf (nth (nthB lent 0) 4)) (stringOf (nth (nthB lent 0) 5)) (stringOf (nth (nthB lent 0) 6)) (fun x => κ ((.bool x.1, [[.int .i64 x.2.1, .int .i64 x.2.2.1, .int .i64 x.2.2.2.1, .str x.2.2.2.2.1, .bool x.2.2.2.2.2.1, .str x.2.2.2.2.2.2.1, .str x.2.2.2.2.2.2.2]]) : Res))
    | false => cf f args lent κ
  | false => cf f args lent κ
theorem F39_d (k : Nat) (h : ∀ (a0 : T1) (b0_0 : Int) (b0_1 : Int) (b0_2 : Int) (b0_3 : ByteArray) (b0_4 : Bool) (b0_5 : ByteArray) (b0_6 : ByteArray) (κ : Res → Option Res), (ev Try.prog cfg k).call 39 [.agg [.str a0.1, .list .str a0.2 .no], .ref 0 0] [[.int .i64 b0_0, .int .i64 b0_1, .int .i64 b0_2, .str b0_3, .bool b0_4, .str b0_5, .str b0_6]] κ = F39 k a0 b0_0 b0_1 b0_2 b0_3 b0_4 b0_5 b0_6 (fun x => κ ((.bool x.1, [[.int .i64 x.2.1, .int .i64 x.2.2.1, .int .i64 x.2.2.2.1, .str x.2.2.2.2.1, .bool x.2.2.2.2.2.1, .str x.2.2.2.2.2.2.1, .str x.2.2.2.2.2.2.2]]) : Res))) : F39_m (F39 k) (ev Try.prog cfg k).call = (ev Try.prog cfg k).call := by
  funext f args lent κ
  unfold F39_m
  split
  · rename_i hp
    split
    · rename_i hs
      rw [Bool.and_eq_true] at hs
      have e : mkC F39_s 0 args = [.agg [.str (stringOf (nth (aggOf (nth args 0)) 0)), .list .str (listOf .str (nth (aggOf (nth args 0)) 1)) .no], .ref 0 0] := by kernel_rfl
      have e' : mkB F39_b 0 lent = [[.int .i64 (intOf (nth (nthB lent 0) 0)), .int .i64 (intOf (nth (nthB lent 0) 1)), .int .i64 (intOf (nth (nthB lent 0) 2)), .str (stringOf (nth (nthB lent 0) 3)), .bool (boolOf (nth (nthB lent 0) 4)), .str (stringOf (nth (nthB lent 0) 5)), .str (stringOf (nth (nthB lent 0) 6))]] := by kernel_rfl
      obtain rfl := Nat.eq_of_beq_eq_true hp
      exact (h ((stringOf (nth (aggOf (nth args 0)) 0)), (listOf .str (nth (aggOf (nth args 0)) 1))) (intOf (nth (nthB lent 0) 0)) (intOf (nth (nthB lent 0) 1)) (intOf (nth (nthB lent 0) 2)) (stringOf (nth (nthB lent 0) 3)) (boolOf (nth (nthB lent 0) 4)) (stringOf (nth (nthB lent 0) 5)) (stringOf (nth (nthB lent 0) 6)) κ).symm.trans (cong2 (fun a l => (ev Try.prog cfg k).call 39 a l κ) (e.symm.trans (okC_eq hs.1).symm) (e'.symm.trans (okB_eq hs.2).symm))
    · rfl
  · rfl
theorem F39_k  (cf : CallF) (lf : LoopF) (a0 : T1) (b0_0 : Int) (b0_1 : Int) (b0_2 : Int) (b0_3 : ByteArray) (b0_4 : Bool) (b0_5 : ByteArray) (b0_6 : ByteArray) (κ : Res → Option Res) : evFn Try.prog cfg cf lf 39 [.agg [.str a0.1, .list .str a0.2 .no], .ref 0 0] [[.int .i64 b0_0, .int .i64 b0_1, .int .i64 b0_2, .str b0_3, .bool b0_4, .str b0_5, .str b0_6]] κ = F39_B  a0 b0_0 b0_1 b0_2 b0_3 b0_4 b0_5 b0_6 (fun x => κ ((.bool x.1, [[.int .i64 x.2.1, .int .i64 x.2.2.1, .int .i64 x.2.2.2.1, .str x.2.2.2.2.1, .bool x.2.2.2.2.2.1, .str x.2.2.2.2.2.2.1, .str x.2.2.2.2.2.2.2]]) : Res)) := by
  kernel_rfl
theorem F39_ev : ∀ (k : Nat) (a0 : T1) (b0_0 : Int) (b0_1 : Int) (b0_2 : Int) (b0_3 : ByteArray) (b0_4 : Bool) (b0_5 : ByteArray) (b0_6 : ByteArray) (κ : Res → Option Res), (ev Try.prog cfg k).call 39 [.agg [.str a0.1, .list .str a0.2 .no], .ref 0 0] [[.int .i64 b0_0, .int .i64 b0_1, .int .i64 b0_2, .str b0_3, .bool b0_4, .str b0_5, .str b0_6]] κ = F39 k a0 b0_0 b0_1 b0_2 b0_3 b0_4 b0_5 b0_6 (fun x => κ ((.bool x.1, [[.int .i64 x.2.1, .int .i64 x.2.2.1, .int .i64 x.2.2.2.1, .str x.2.2.2.2.1, .bool x.2.2.2.2.2.1, .str x.2.2.2.2.2.2.1, .str x.2.2.2.2.2.2.2]]) : Res)) := by
  intro k
  induction k with
  | zero => intros; rfl
  | succ k ih =>
    intro a0 b0_0 b0_1 b0_2 b0_3 b0_4 b0_5 b0_6 κ
    refine (ev_call' Try.prog cfg k 39 1 _ _ κ (by rfl)).trans ?_
    skip
    exact F39_k  _ _ a0 b0_0 b0_1 b0_2 b0_3 b0_4 b0_5 b0_6 κ
def L38_0_B (gF39 : tF39) (gL38_0 : tL38_0) (κ : Int × Int × Int × Int × ByteArray × Bool × ByteArray × ByteArray → Option Res) (p0 : T3) (p1 : Int) (p2 : Int) (p3 : Int) (p4 : Int) (p5 : Int) (p6 : ByteArray) (p7 : Bool) (p8 : ByteArray) (p9 : ByteArray) (K : Int × Int × Int × Int × ByteArray × Bool × ByteArray × ByteArray → Option Res) : Option Res :=
  chk1 (if decide (p2 < p1) = true then
    (if (true && (decide ((0 : Int) ≤ p2) && decide (p2 < (p0.length : Int)))) = true then
     (chk1 (gF39 (p0.getD p2.toNat ((⟨#[]⟩ : ByteArray), ([] : List ByteArray))) p3 p4 p5 p6 p7 p8 p9 fun x1 =>
      chk1 (if x1.1 = true then
        (κ (p2, (x1.2.1, (x1.2.2.1, (x1.2.2.2.1, (x1.2.2.2.2.1, (x1.2.2.2.2.2.1, (x1.2.2.2.2.2.2.1, x1.2.2.2.2.2.2.2))))))))
       else
        (chk1 (gL38_0 p0 p1 (IntKind.wrap .i64 (p2 + (1 : Int))) x1.2.1 x1.2.2.1 x1.2.2.2.1 x1.2.2.2.2.1 x1.2.2.2.2.2.1 x1.2.2.2.2.2.2.1 x1.2.2.2.2.2.2.2 K)))))
    else
     (none))
   else
    (K (p2, (p3, (p4, (p5, (p6, (p7, (p8, p9)))))))))
def L38_0 : Nat → (Int × Int × Int × Int × ByteArray × Bool × ByteArray × ByteArray → Option Res) → T3 → Int → Int → Int → Int → Int → ByteArray → Bool → ByteArray → ByteArray → (Int × Int × Int × Int × ByteArray × Bool × ByteArray × ByteArray → Option Res) → Option Res
  | 0, _, _, _, _, _, _, _, _, _, _, _, _ => none
  | k + 1, κ, p0, p1, p2, p3, p4, p5, p6, p7, p8, p9, K => L38_0_B (F39 k) (fun p0 p1 p2 p3 p4 p5 p6 p7 p8 p9 K => L38_0 k κ p0 p1 p2 p3 p4 p5 p6 p7 p8 p9 K) κ p0 p1 p2 p3 p4 p5 p6 p7 p8 p9 K
def L38_0_s : Tr SC := Tr.of (nthD (.one .undef) [.one (.list (.pair .str (.list .str)) .no), .fn 39 [.ref 19 0], .one .undef, .one .undef, .one .undef, .one .undef, .one .undef, .one (.int .i64), .one (.int .i64)]) 5
def L38_0_b : Tr (List SC) := Tr.of (nthD [] [[], [], [], [], [], [], [], [], [], [], [], [], [], [], [], [], [], [], [], [.one (.int .i64), .one (.int .i64), .one (.int .i64), .one .str, .one .bool, .one .str, .one .str]]) 5
def L38_0_m (g : T3 → Int → Int → Int → Int → Int → ByteArray → Bool → ByteArray → ByteArray → (Int × Int × Int × Int × ByteArray × Bool × ByteArray × ByteArray → Option Res) → Option Res) (lf : LoopF) : LoopF := fun p σ K => match pathEq p [true, false, true, false] with
  | true => match okSt 19 L38_0_s L38_0_b σ with
    | true => g (listOf (.pair .str (.list .str)) (Tr.val .undef σ.slots)) (intOf (Tr.val .undef (Tr.lft (Tr.lft (Tr.lft σ.slots))))) (intOf (Tr.val .undef (Tr.lft (Tr.lft (Tr.rgt σ.slots))))) (intOf (nth (Tr.val [] (Tr.lft (Tr.rgt (Tr.lft (Tr.lft σ.boxes))))) 0)) (intOf (nth (Tr.val [] (Tr.lft (Tr.rgt (Tr.lft (Tr.lft σ.boxes))))) 1)) (intOf (nth (Tr.val [] (Tr.lft (Tr.rgt (Tr.lft (Tr.lft σ.boxes))))) 2)) (stringOf (nth (Tr.val [] (Tr.lft (Tr.rgt (Tr.lft (Tr.lft σ.boxes))))) 3)) (boolOf (nth (Tr.val [] (Tr.lft (Tr.rgt (Tr.lft (Tr.lft σ.boxes))))) 4)) (stringOf (nth (Tr.val [] (Tr.lft (Tr.rgt (Tr.lft (Tr.lft σ.boxes))))) 5)) (stringOf (nth (Tr.val [] (Tr.lft (Tr.rgt (Tr.lft (Tr.lft σ.boxes))))) 6)) (fun v => K (.exit 0) ⟨19, Tr.of (nthD .undef [.list (.pair .str (.list .str)) (listOf (.pair .str (.list .str)) (Tr.val .undef σ.slots)) .no, .fn 39 [.ref 19 0], .undef, .undef, .undef, .undef, .undef, .int .i64 (intOf (Tr.val .undef (Tr.lft (Tr.lft (Tr.lft σ.slots))))), .int .i64 v.1]) 5, Tr.of (nthD [] [[], [], [], [], [], [], [], [], [], [], [], [], [], [], [], [], [], [], [], [.int .i64 v.2.1, .int .i64 v.2.2.1, .int .i64 v.2.2.2.1, .str v.2.2.2.2.1, .bool v.2.2.2.2.2.1, .str v.2.2.2.2.2.2.1, .str v.2.2.2.2.2.2.2]]) 5⟩)
    | false => lf p σ K
  | false => lf p σ K
theorem L38_0_d (k : Nat) (κ : Res → Option Res) (h : ∀ (p0 : T3) (p1 : Int) (p2 : Int) (p3 : Int) (p4 : Int) (p5 : Int) (p6 : ByteArray) (p7 : Bool) (p8 : ByteArray) (p9 : ByteArray) (K : Cont), (ev Try.prog cfg k).loop 38 1 κ [true, false, true, false] ⟨19, Tr.of (nthD .undef [.list (.pair .str (.list .str)) p0 .no, .fn 39 [.ref 19 0], .undef, .undef, .undef, .undef, .undef, .int .i64 p1, .int .i64 p2]) 5, Tr.of (nthD [] [[], [], [], [], [], [], [], [], [], [], [], [], [], [], [], [], [], [], [], [.int .i64 p3, .int .i64 p4, .int .i64 p5, .str p6, .bool p7, .str p8, .str p9]]) 5⟩ K = L38_0 k (fun x => κ ((.int .i64 x.1, [[.int .i64 x.2.1, .int .i64 x.2.2.1, .int .i64 x.2.2.2.1, .str x.2.2.2.2.1, .bool x.2.2.2.2.2.1, .str x.2.2.2.2.2.2.1, .str x.2.2.2.2.2.2.2]]) : Res)) p0 p1 p2 p3 p4 p5 p6 p7 p8 p9 (fun v => K (.exit 0) ⟨19, Tr.of (nthD .undef [.list (.pair .str (.list .str)) p0 .no, .fn 39 [.ref 19 0], .undef, .undef, .undef, .undef, .undef, .int .i64 p1, .int .i64 v.1]) 5, Tr.of (nthD [] [[], [], [], [], [], [], [], [], [], [], [], [], [], [], [], [], [], [], [], [.int .i64 v.2.1, .int .i64 v.2.2.1, .int .i64 v.2.2.2.1, .str v.2.2.2.2.1, .bool v.2.2.2.2.2.1, .str v.2.2.2.2.2.2.1, .str v.2.2.2.2.2.2.2]]) 5⟩)) : L38_0_m (L38_0 k (fun x => κ ((.int .i64 x.1, [[.int .i64 x.2.1, .int .i64 x.2.2.1, .int .i64 x.2.2.2.1, .str x.2.2.2.2.1, .bool x.2.2.2.2.2.1, .str x.2.2.2.2.2.2.1, .str x.2.2.2.2.2.2.2]]) : Res))) ((ev Try.prog cfg k).loop 38 1 κ) = (ev Try.prog cfg k).loop 38 1 κ := by
  funext p σ K
  unfold L38_0_m
  split
  · rename_i hp
    split
    · rename_i hs
      have e : mkSt 19 L38_0_s L38_0_b σ = ⟨19, Tr.of (nthD .undef [.list (.pair .str (.list .str)) (listOf (.pair .str (.list .str)) (Tr.val .undef σ.slots)) .no, .fn 39 [.ref 19 0], .undef, .undef, .undef, .undef, .undef, .int .i64 (intOf (Tr.val .undef (Tr.lft (Tr.lft (Tr.lft σ.slots))))), .int .i64 (intOf (Tr.val .undef (Tr.lft (Tr.lft (Tr.rgt σ.slots)))))]) 5, Tr.of (nthD [] [[], [], [], [], [], [], [], [], [], [], [], [], [], [], [], [], [], [], [], [.int .i64 (intOf (nth (Tr.val [] (Tr.lft (Tr.rgt (Tr.lft (Tr.lft σ.boxes))))) 0)), .int .i64 (intOf (nth (Tr.val [] (Tr.lft (Tr.rgt (Tr.lft (Tr.lft σ.boxes))))) 1)), .int .i64 (intOf (nth (Tr.val [] (Tr.lft (Tr.rgt (Tr.lft (Tr.lft σ.boxes))))) 2)), .str (stringOf (nth (Tr.val [] (Tr.lft (Tr.rgt (Tr.lft (Tr.lft σ.boxes))))) 3)), .bool (boolOf (nth (Tr.val [] (Tr.lft (Tr.rgt (Tr.lft (Tr.lft σ.boxes))))) 4)), .str (stringOf (nth (Tr.val [] (Tr.lft (Tr.rgt (Tr.lft (Tr.lft σ.boxes))))) 5)), .str (stringOf (nth (Tr.val [] (Tr.lft (Tr.rgt (Tr.lft (Tr.lft σ.boxes))))) 6))]]) 5⟩ := by kernel_rfl
      rw [pathEq_eq hp]
      exact (h (listOf (.pair .str (.list .str)) (Tr.val .undef σ.slots)) (intOf (Tr.val .undef (Tr.lft (Tr.lft (Tr.lft σ.slots))))) (intOf (Tr.val .undef (Tr.lft (Tr.lft (Tr.rgt σ.slots))))) (intOf (nth (Tr.val [] (Tr.lft (Tr.rgt (Tr.lft (Tr.lft σ.boxes))))) 0)) (intOf (nth (Tr.val [] (Tr.lft (Tr.rgt (Tr.lft (Tr.lft σ.boxes))))) 1)) (intOf (nth (Tr.val [] (Tr.lft (Tr.rgt (Tr.lft (Tr.lft σ.boxes))))) 2)) (stringOf (nth (Tr.val [] (Tr.lft (Tr.rgt (Tr.lft (Tr.lft σ.boxes))))) 3)) (boolOf (nth (Tr.val [] (Tr.lft (Tr.rgt (Tr.lft (Tr.lft σ.boxes))))) 4)) (stringOf (nth (Tr.val [] (Tr.lft (Tr.rgt (Tr.lft (Tr.lft σ.boxes))))) 5)) (stringOf (nth (Tr.val [] (Tr.lft (Tr.rgt (Tr.lft (Tr.lft σ.boxes))))) 6)) K).symm.trans (congrArg (fun s => (ev Try.prog cfg k).loop 38 1 κ [true, false, true, false] s K) (e.symm.trans (okSt_eq hs).symm))
    · rfl
  · rfl
theorem L38_0_k (gF39 : tF39) (gL38_0 : tL38_0) (cf : CallF) (lf : LoopF) (κ : Res → Option Res) (p0 : T3) (p1 : Int) (p2 : Int) (p3 : Int) (p4 : Int) (p5 : Int) (p6 : ByteArray) (p7 : Bool) (p8 : ByteArray) (p9 : ByteArray) (K : Cont) : evLp Try.prog cfg (F39_m gF39 cf) (L38_0_m gL38_0 lf) 38 1 κ [true, false, true, false] ⟨19, Tr.of (nthD .undef [.list (.pair .str (.list .str)) p0 .no, .fn 39 [.ref 19 0], .undef, .undef, .undef, .undef, .undef, .int .i64 p1, .int .i64 p2]) 5, Tr.of (nthD [] [[], [], [], [], [], [], [], [], [], [], [], [], [], [], [], [], [], [], [], [.int .i64 p3, .int .i64 p4, .int .i64 p5, .str p6, .bool p7, .str p8, .str p9]]) 5⟩ K = L38_0_B gF39 gL38_0 (fun x => κ ((.int .i64 x.1, [[.int .i64 x.2.1, .int .i64 x.2.2.1, .int .i64 x.2.2.2.1, .str x.2.2.2.2.1, .bool x.2.2.2.2.2.1, .str x.2.2.2.2.2.2.1, .str x.2.2.2.2.2.2.2]]) : Res)) p0 p1 p2 p3 p4 p5 p6 p7 p8 p9 (fun v => K (.exit 0) ⟨19, Tr.of (nthD .undef [.list (.pair .str (.list .str)) p0 .no, .fn 39 [.ref 19 0], .undef, .undef, .undef, .undef, .undef, .int .i64 p1, .int .i64 v.1]) 5, Tr.of (nthD [] [[], [], [], [], [], [], [], [], [], [], [], [], [], [], [], [], [], [], [], [.int .i64 v.2.1, .int .i64 v.2.2.1, .int .i64 v.2.2.2.1, .str v.2.2.2.2.1, .bool v.2.2.2.2.2.1, .str v.2.2.2.2.2.2.1, .str v.2.2.2.2.2.2.2]]) 5⟩) := by
  kernel_rfl
theorem L38_0_ev : ∀ (k : Nat) (κ : Res → Option Res) (p0 : T3) (p1 : Int) (p2 : Int) (p3 : Int) (p4 : Int) (p5 : Int) (p6 : ByteArray) (p7 : Bool) (p8 : ByteArray) (p9 : ByteArray) (K : Cont), (ev Try.prog cfg k).loop 38 1 κ [true, false, true, false] ⟨19, Tr.of (nthD .undef [.list (.pair .str (.list .str)) p0 .no, .fn 39 [.ref 19 0], .undef, .undef, .undef, .undef, .undef, .int .i64 p1, .int .i64 p2]) 5, Tr.of (nthD [] [[], [], [], [], [], [], [], [], [], [], [], [], [], [], [], [], [], [], [], [.int .i64 p3, .int .i64 p4, .int .i64 p5, .str p6, .bool p7, .str p8, .str p9]]) 5⟩ K = L38_0 k (fun x => κ ((.int .i64 x.1, [[.int .i64 x.2.1, .int .i64 x.2.2.1, .int .i64 x.2.2.2.1, .str x.2.2.2.2.1, .bool x.2.2.2.2.2.1, .str x.2.2.2.2.2.2.1, .str x.2.2.2.2.2.2.2]]) : Res)) p0 p1 p2 p3 p4 p5 p6 p7 p8 p9 (fun v => K (.exit 0) ⟨19, Tr.of (nthD .undef [.list (.pair .str (.list .str)) p0 .no, .fn 39 [.ref 19 0], .undef, .undef, .undef, .undef, .undef, .int .i64 p1, .int .i64 v.1]) 5, Tr.of (nthD [] [[], [], [], [], [], [], [], [], [], [], [], [], [], [], [], [], [], [], [], [.int .i64 v.2.1, .int .i64 v.2.2.1, .int .i64 v.2.2.2.1, .str v.2.2.2.2.1, .bool v.2.2.2.2.2.1, .str v.2.2.2.2.2.2.1, .str v.2.2.2.2.2.2.2]]) 5⟩) := by
  intro k κ
  induction k with
  | zero => intro p0 p1 p2 p3 p4 p5 p6 p7 p8 p9 K; rfl
  | succ k ih =>
    intro p0 p1 p2 p3 p4 p5 p6 p7 p8 p9 K
    rw [ev_loop, ← F39_d k (F39_ev k), ← L38_0_d k κ ih]
    exact L38_0_k _ _ _ _ κ p0 p1 p2 p3 p4 p5 p6 p7 p8 p9 K
def F38_B (gF39 : tF39) (gL38_0 : tL38_0) (a0 : T3) (b0_0 : Int) (b0_1 : Int) (b0_2 : Int) (b0_3 : ByteArray) (b0_4 : Bool) (b0_5 : ByteArray) (b0_6 : ByteArray) (κ : Int × Int × Int × Int × ByteArray × Bool × ByteArray × ByteArray → Option Res) : Option Res :=
  chk1 (gL38_0 a0 (a0.length : Int) (0 : Int) b0_0 b0_1 b0_2 b0_3 b0_4 b0_5 b0_6 fun v2 =>
   κ ((-1 : Int), (v2.2.1, (v2.2.2.1, (v2.2.2.2.1, (v2.2.2.2.2.1, (v2.2.2.2.2.2.1, (v2.2.2.2.2.2.2.1, v2.2.2.2.2.2.2.2))))))))
/-- slices.IndexFunc[[]lamplighter/api.Bind,lamplighter/api.Bind] -/
def F38 : Nat → T3 → Int → Int → Int → ByteArray → Bool → ByteArray → ByteArray → (Int × Int × Int × Int × ByteArray × Bool × ByteArray × ByteArray → Option Res) → Option Res
  | 0, _, _, _, _, _, _, _, _, _ => none
  | k + 1, a0, b0_0, b0_1, b0_2, b0_3, b0_4, b0_5, b0_6, κ => F38_B (F39 k) (L38_0 k κ) a0 b0_0 b0_1 b0_2 b0_3 b0_4 b0_5 b0_6 κ
def F38_s : List SC := [.one (.list (.pair .str (.list .str)) .no), .fn 39 [.ref 0 0]]
def F38_b : List (List SC) := [[.one (.int .i64), .one (.int .i64), .one (.int .i64), .one .str, .one .bool, .one .str, .one .str]]
def F38_m (g : T3 → Int → Int → Int → ByteArray → Bool → ByteArray → ByteArray → (Int × Int × Int × Int × ByteArray × Bool × ByteArray × ByteArray → Option Res) → Option Res) (cf : CallF) : CallF := fun f args lent κ => match Nat.beq f 38 with
  | true => match okC F38_s args && okB F38_b lent with
    | true => g (listOf (.pair .str (.list .str)) (nth args 0)) (intOf (nth (nthB lent 0) 0)) (intOf (nth (nthB lent 0) 1)) (intOf (nth (nthB lent 0) 2)) (stringOf (nth (nthB lent 0) 3)) (boolOf (nth (nthB lent 0) 4)) (stringOf (nth (nthB lent 0) 5)) (stringOf (nth (nthB lent 0) 6)) (fun x => κ ((.int .i64 x.1, [[.int .i64 x.2.1, .int .i64 x.2.2.1, .int .i64 x.2.2.2.1, .str x.2.2.2.2.1, .bool x.2.2.2.2.2.1, .str x.2.2.2.2.2.2.1, .str x.2.2.2.2.2.2.2]]) : Res))
    | false => cf f args lent κ
  | false => cf f args lent κ
theorem F38_d (k : Nat) (h : ∀ (a0 : T3) (b0_0 : Int) (b0_1 : Int) (b0_2 : Int) (b0_3 : ByteArray) (b0_4 : Bool) (b0_5 : ByteArray) (b0_6 : ByteArray) (κ : Res → Option Res), (ev Try.prog cfg k).call 38 [.list (.pair .str (.list .str)) a0 .no, .fn 39 [.ref 0 0]] [[.int .i64 b0_0, .int .i64 b0_1, .int .i64 b0_2, .str b0_3, .bool b0_4, .str b0_5, .str b0_6]] κ = F38 k a0 b0_0 b0_1 b0_2 b0_3 b0_4 b0_5 b0_6 (fun x => κ ((.int .i64 x.1, [[.int .i64 x.2.1, .int .i64 x.2.2.1, .int .i64 x.2.2.2.1, .str x.2.2.2.2.1, .bool x.2.2.2.2.2.1, .str x.2.2.2.2.2.2.1, .str x.2.2.2.2.2.2.2]]) : Res))) : F38_m (F38 k) (ev Try.prog cfg k).call = (ev Try.prog cfg k).call := by
  funext f args lent κ
  unfold F38_m
  split
  · rename_i hp
    split
    · rename_i hs
      rw [Bool.and_eq_true] at hs
      have e : mkC F38_s 0 args = [.list (.pair .str (.list .str)) (listOf (.pair .str (.list .str)) (nth args 0)) .no, .fn 39 [.ref 0 0]] := by kernel_rfl
      have e' : mkB F38_b 0 lent = [[.int .i64 (intOf (nth (nthB lent 0) 0)), .int .i64 (intOf (nth (nthB lent 0) 1)), .int .i64 (intOf (nth (nthB lent 0) 2)), .str (stringOf (nth (nthB lent 0) 3)), .bool (boolOf (nth (nthB lent 0) 4)), .str (stringOf (nth (nthB lent 0) 5)), .str (stringOf (nth (nthB lent 0) 6))]] := by kernel_rfl
      obtain rfl := Nat.eq_of_beq_eq_true hp
      exact (h (listOf (.pair .str (.list .str)) (nth args 0)) (intOf (nth (nthB lent 0) 0)) (intOf (nth (nthB lent 0) 1)) (intOf (nth (nthB lent 0) 2)) (stringOf (nth (nthB lent 0) 3)) (boolOf (nth (nthB lent 0) 4)) (stringOf (nth (nthB lent 0) 5)) (stringOf (nth (nthB lent 0) 6)) κ).symm.trans (cong2 (fun a l => (ev Try.prog cfg k).call 38 a l κ) (e.symm.trans (okC_eq hs.1).symm) (e'.symm.trans (okB_eq hs.2).symm))
    · rfl
  · rfl
theorem F38_k (gF39 : tF39) (gL38_0 : tL38_0) (cf : CallF) (lf : LoopF) (a0 : T3) (b0_0 : Int) (b0_1 : Int) (b0_2 : Int) (b0_3 : ByteArray) (b0_4 : Bool) (b0_5 : ByteArray) (b0_6 : ByteArray) (κ : Res → Option Res) : evFn Try.prog cfg (F39_m gF39 cf) (L38_0_m gL38_0 lf) 38 [.list (.pair .str (.list .str)) a0 .no, .fn 39 [.ref 0 0]] [[.int .i64 b0_0, .int .i64 b0_1, .int .i64 b0_2, .str b0_3, .bool b0_4, .str b0_5, .str b0_6]] κ = F38_B gF39 gL38_0 a0 b0_0 b0_1 b0_2 b0_3 b0_4 b0_5 b0_6 (fun x => κ ((.int .i64 x.1, [[.int .i64 x.2.1, .int .i64 x.2.2.1, .int .i64 x.2.2.2.1, .str x.2.2.2.2.1, .bool x.2.2.2.2.2.1, .str x.2.2.2.2.2.2.1, .str x.2.2.2.2.2.2.2]]) : Res)) := by
  kernel_rfl
theorem F38_ev : ∀ (k : Nat) (a0 : T3) (b0_0 : Int) (b0_1 : Int) (b0_2 : Int) (b0_3 : ByteArray) (b0_4 : Bool) (b0_5 : ByteArray) (b0_6 : ByteArray) (κ : Res → Option Res), (ev Try.prog cfg k).call 38 [.list (.pair .str (.list .str)) a0 .no, .fn 39 [.ref 0 0]] [[.int .i64 b0_0, .int .i64 b0_1, .int .i64 b0_2, .str b0_3, .bool b0_4, .str b0_5, .str b0_6]] κ = F38 k a0 b0_0 b0_1 b0_2 b0_3 b0_4 b0_5 b0_6 (fun x => κ ((.int .i64 x.1, [[.int .i64 x.2.1, .int .i64 x.2.2.1, .int .i64 x.2.2.2.1, .str x.2.2.2.2.1, .bool x.2.2.2.2.2.1, .str x.2.2.2.2.2.2.1, .str x.2.2.2.2.2.2.2]]) : Res)) := by
  intro k
  induction k with
  | zero => intros; rfl
  | succ k ih =>
    intro a0 b0_0 b0_1 b0_2 b0_3 b0_4 b0_5 b0_6 κ
    refine (ev_call' Try.prog cfg k 38 1 _ _ κ (by rfl)).trans ?_
    rw [← F39_d k (F39_ev k), ← L38_0_d k κ (L38_0_ev k κ)]
    exact F38_k _ _ _ _ a0 b0_0 b0_1 b0_2 b0_3 b0_4 b0_5 b0_6 κ
def L40_0_B (gL40_0 : tL40_0) (κ : Int × Int → Option Res) (p0 : ByteArray) (p1 : (List (ByteArray × Int))) (p2 : Int) (p3 : Int) (K : Int → Option Res) : Option Res :=
  chk1 (if decide (p3 < p2) = true then
    (if (true && (decide ((0 : Int) ≤ p3) && decide (p3 < (p1.length : Int)))) = true then
     (chk4 (if (((p1.getD p3.toNat ((⟨#[]⟩ : ByteArray), (0 : Int))).1).toList == p0.toList) = true then
       (κ (p3, (p1.getD p3.toNat ((⟨#[]⟩ : ByteArray), (0 : Int))).2))
      else
       (chk1 (gL40_0 p0 p1 p2 (IntKind.wrap .i64 (p3 + (1 : Int))) K))))
    else
     (none))
   else
    (K p3))
def L40_0 : Nat → (Int × Int → Option Res) → ByteArray → (List (ByteArray × Int)) → Int → Int → (Int → Option Res) → Option Res
  | 0, _, _, _, _, _, _ => none
  | k + 1, κ, p0, p1, p2, p3, K => L40_0_B (fun p0 p1 p2 p3 K => L40_0 k κ p0 p1 p2 p3 K) κ p0 p1 p2 p3 K
def L40_0_s : Tr SC := Tr.of (nthD (.one .undef) [.one .undef, .one .undef, .one .str, .one .undef, .one .undef, .one .undef, .one .undef, .one .undef, .one .undef, .one .undef, .one .undef, .one .undef, .one .undef, .one .undef, .one .undef, .one .undef, .one .undef, .one .undef, .one .undef, .one (.list (.pair .str (.int .i64)) .no), .one (.int .i64), .one (.int .i64)]) 6
def L40_0_b : Tr (List SC) := Tr.of (nthD [] []) 6
def L40_0_m (g : ByteArray → (List (ByteArray × Int)) → Int → Int → (Int → Option Res) → Option Res) (lf : LoopF) : LoopF := fun p σ K => match pathEq p [true, true, false, true, false] with
  | true => match okSt 34 L40_0_s L40_0_b σ with
    | true => g (stringOf (Tr.val .undef (Tr.rgt σ.slots))) (listOf (.pair .str (.int .i64)) (Tr.val .undef (Tr.lft (Tr.rgt (Tr.lft (Tr.lft σ.slots)))))) (intOf (Tr.val .undef (Tr.lft (Tr.rgt (Tr.lft (Tr.rgt σ.slots)))))) (intOf (Tr.val .undef (Tr.lft (Tr.rgt (Tr.rgt (Tr.lft σ.slots)))))) (fun v => K (.exit 0) ⟨34, Tr.of (nthD .undef [.undef, .undef, .str (stringOf (Tr.val .undef (Tr.rgt σ.slots))), .undef, .undef, .undef, .undef, .undef, .undef, .undef, .undef, .undef, .undef, .undef, .undef, .undef, .undef, .undef, .undef, .list (.pair .str (.int .i64)) (listOf (.pair .str (.int .i64)) (Tr.val .undef (Tr.lft (Tr.rgt (Tr.lft (Tr.lft σ.slots)))))) .no, .int .i64 (intOf (Tr.val .undef (Tr.lft (Tr.rgt (Tr.lft (Tr.rgt σ.slots)))))), .int .i64 v]) 6, Tr.of (nthD [] []) 6⟩)
    | false => lf p σ K
  | false => lf p σ K
theorem L40_0_d (k : Nat) (κ : Res → Option Res) (h : ∀ (p0 : ByteArray) (p1 : (List (ByteArray × Int))) (p2 : Int) (p3 : Int) (K : Cont), (ev Try.prog cfg k).loop 40 0 κ [true, true, false, true, false] ⟨34, Tr.of (nthD .undef [.undef, .undef, .str p0, .undef, .undef, .undef, .undef, .undef, .undef, .undef, .undef, .undef, .undef, .undef, .undef, .undef, .undef, .undef, .undef, .list (.pair .str (.int .i64)) p1 .no, .int .i64 p2, .int .i64 p3]) 6, Tr.of (nthD [] []) 6⟩ K = L40_0 k (fun x => κ ((.tup [.int .i64 x.1, .int .i64 x.2], []) : Res)) p0 p1 p2 p3 (fun v => K (.exit 0) ⟨34, Tr.of (nthD .undef [.undef, .undef, .str p0, .undef, .undef, .undef, .undef, .undef, .undef, .undef, .undef, .undef, .undef, .undef, .undef, .undef, .undef, .undef, .undef, .list (.pair .str (.int .i64)) p1 .no, .int .i64 p2, .int .i64 v]) 6, Tr.of (nthD [] []) 6⟩)) : L40_0_m (L40_0 k (fun x => κ ((.tup [.int .i64 x.1, .int .i64 x.2], []) : Res))) ((ev Try.prog cfg k).loop 40 0 κ) = (ev Try.prog cfg k).loop 40 0 κ := by
  funext p σ K
  unfold L40_0_m
  split
  · rename_i hp
    split
    · rename_i hs
      have e : mkSt 34 L40_0_s L40_0_b σ = ⟨34, Tr.of (nthD .undef [.undef, .undef, .str (stringOf (Tr.val .undef (Tr.rgt σ.slots))), .undef, .undef, .undef, .undef, .undef, .undef, .undef, .undef, .undef, .undef, .undef, .undef, .undef, .undef, .undef, .undef, .list (.pair .str (.int .i64)) (listOf (.pair .str (.int .i64)) (Tr.val .undef (Tr.lft (Tr.rgt (Tr.lft (Tr.lft σ.slots)))))) .no, .int .i64 (intOf (Tr.val .undef (Tr.lft (Tr.rgt (Tr.lft (Tr.rgt σ.slots)))))), .int .i64 (intOf (Tr.val .undef (Tr.lft (Tr.rgt (Tr.rgt (Tr.lft σ.slots))))))]) 6, Tr.of (nthD [] []) 6⟩ := by kernel_rfl
      rw [pathEq_eq hp]
      exact (h (stringOf (Tr.val .undef (Tr.rgt σ.slots))) (listOf (.pair .str (.int .i64)) (Tr.val .undef (Tr.lft (Tr.rgt (Tr.lft (Tr.lft σ.slots)))))) (intOf (Tr.val .undef (Tr.lft (Tr.rgt (Tr.lft (Tr.rgt σ.slots)))))) (intOf (Tr.val .undef (Tr.lft (Tr.rgt (Tr.rgt (Tr.lft σ.slots)))))) K).symm.trans (congrArg (fun s => (ev Try.prog cfg k).loop 40 0 κ [true, true, false, true, false] s K) (e.symm.trans (okSt_eq hs).symm))
    · rfl
  · rfl
theorem L40_0_k (gL40_0 : tL40_0) (cf : CallF) (lf : LoopF) (κ : Res → Option Res) (p0 : ByteArray) (p1 : (List (ByteArray × Int))) (p2 : Int) (p3 : Int) (K : Cont) : evLp Try.prog cfg cf (L40_0_m gL40_0 lf) 40 0 κ [true, true, false, true, false] ⟨34, Tr.of (nthD .undef [.undef, .undef, .str p0, .undef, .undef, .undef, .undef, .undef, .undef, .undef, .undef, .undef, .undef, .undef, .undef, .undef, .undef, .undef, .undef, .list (.pair .str (.int .i64)) p1 .no, .int .i64 p2, .int .i64 p3]) 6, Tr.of (nthD [] []) 6⟩ K = L40_0_B gL40_0 (fun x => κ ((.tup [.int .i64 x.1, .int .i64 x.2], []) : Res)) p0 p1 p2 p3 (fun v => K (.exit 0) ⟨34, Tr.of (nthD .undef [.undef, .undef, .str p0, .undef, .undef, .undef, .undef, .undef, .undef, .undef, .undef, .undef, .undef, .undef, .undef, .undef, .undef, .undef, .undef, .list (.pair .str (.int .i64)) p1 .no, .int .i64 p2, .int .i64 v]) 6, Tr.of (nthD [] []) 6⟩) := by
  kernel_rfl
theorem L40_0_ev : ∀ (k : Nat) (κ : Res → Option Res) (p0 : ByteArray) (p1 : (List (ByteArray × Int))) (p2 : Int) (p3 : Int) (K : Cont), (ev Try.prog cfg k).loop 40 0 κ [true, true, false, true, false] ⟨34, Tr.of (nthD .undef [.undef, .undef, .str p0, .undef, .undef, .undef, .undef, .undef, .undef, .undef, .undef, .undef, .undef, .undef, .undef, .undef, .undef, .undef, .undef, .list (.pair .str (.int .i64)) p1 .no, .int .i64 p2, .int .i64 p3]) 6, Tr.of (nthD [] []) 6⟩ K = L40_0 k (fun x => κ ((.tup [.int .i64 x.1, .int .i64 x.2], []) : Res)) p0 p1 p2 p3 (fun v => K (.exit 0) ⟨34, Tr.of (nthD .undef [.undef, .undef, .str p0, .undef, .undef, .undef, .undef, .undef, .undef, .undef, .undef, .undef, .undef, .undef, .undef, .undef, .undef, .undef, .undef, .list (.pair .str (.int .i64)) p1 .no, .int .i64 p2, .int .i64 v]) 6, Tr.of (nthD [] []) 6⟩) := by
  intro k κ
  induction k with
  | zero => intro p0 p1 p2 p3 K; rfl
  | succ k ih =>
    intro p0 p1 p2 p3 K
    rw [ev_loop, ← L40_0_d k κ ih]
    exact L40_0_k _ _ _ κ p0 p1 p2 p3 K
def F40_B (gF13v1 : tF13v1) (gL40_0 : tL40_0) (a1 : ByteArray) (a2 : ByteArray) (κ : Int × Int → Option Res) : Option Res :=
  chk1 (gF13v1 a1 fun x1 =>
   chk5 (gL40_0 a2 x1.1.2 (x1.1.2.length : Int) (0 : Int) fun v2 =>
    κ ((-1 : Int), (0 : Int))))
/-- (*lamplighter/schema.Schema).Field -/
def F40 : Nat → ByteArray → ByteArray → (Int × Int → Option Res) → Option Res
  | 0, _, _, _ => none
  | k + 1, a1, a2, κ => F40_B (F13v1 k) (L40_0 k κ) a1 a2 κ
def F40_s : List SC := [.one .nilp, .one .str, .one .str]
def F40_b : List (List SC) := []
def F40_m (g : ByteArray → ByteArray → (Int × Int → Option Res) → Option Res) (cf : CallF) : CallF := fun f args lent κ => match Nat.beq f 40 with
  | true => match okC F40_s args && okB F40_b lent with
    | true => g (stringOf (nth args 1)) (stringOf (nth args 2)) (fun x => κ ((.tup [.int .i64 x.1, .int .i64 x.2], []) : Res))
    | false => cf f args lent κ
  | false => cf f args lent κ
theorem F40_d (k : Nat) (h : ∀ (a1 : ByteArray) (a2 : ByteArray) (κ : Res → Option Res), (ev Try.prog cfg k).call 40 [.nilp, .str a1, .str a2] [] κ = F40 k a1 a2 (fun x => κ ((.tup [.int .i64 x.1, .int .i64 x.2], []) : Res))) : F40_m (F40 k) (ev Try.prog cfg k).call = (ev Try.prog cfg k).call := by
  funext f args lent κ
  unfold F40_m
  split
  · rename_i hp
    split
    · rename_i hs
      rw [Bool.and_eq_true] at hs
      have e : mkC F40_s 0 args = [.nilp, .str (stringOf (nth args 1)), .str (stringOf (nth args 2))] := by kernel_rfl
      have e' : mkB F40_b 0 lent = [] := by kernel_rfl
      obtain rfl := Nat.eq_of_beq_eq_true hp
      exact (h (stringOf (nth args 1)) (stringOf (nth args 2)) κ).symm.trans (cong2 (fun a l => (ev Try.prog cfg k).call 40 a l κ) (e.symm.trans (okC_eq hs.1).symm) (e'.symm.trans (okB_eq hs.2).symm))
    · rfl
  · rfl
theorem F40_k (gF13v1 : tF13v1) (gL40_0 : tL40_0) (cf : CallF) (lf : LoopF) (a1 : ByteArray) (a2 : ByteArray) (κ : Res → Option Res) : evFn Try.prog cfg (F13v1_m gF13v1 cf) (L40_0_m gL40_0 lf) 40 [.nilp, .str a1, .str a2] [] κ = F40_B gF13v1 gL40_0 a1 a2 (fun x => κ ((.tup [.int .i64 x.1, .int .i64 x.2], []) : Res)) := by
  kernel_rfl
theorem F40_ev : ∀ (k : Nat) (a1 : ByteArray) (a2 : ByteArray) (κ : Res → Option Res), (ev Try.prog cfg k).call 40 [.nilp, .str a1, .str a2] [] κ = F40 k a1 a2 (fun x => κ ((.tup [.int .i64 x.1, .int .i64 x.2], []) : Res)) := by
  intro k
  induction k with
  | zero => intros; rfl
  | succ k ih =>
    intro a1 a2 κ
    refine (ev_call' Try.prog cfg k 40 0 _ _ κ (by rfl)).trans ?_
    rw [← F13v1_d k (F13v1_ev k), ← L40_0_d k κ (L40_0_ev k κ)]
    exact F40_k _ _ _ _ a1 a2 κ
def L34_0_B (gF40 : tF40) (gL34_0 : tL34_0) (κ : Int × Int → Option Res) (p0 : Int) (p1 : (List ByteArray)) (p2 : Int) (p3 : Int) (p4 : Int) (p5 : Int) (p6 : Int) (p7 : ByteArray) (p8 : Bool) (p9 : ByteArray) (p10 : ByteArray) (K : Int × Int → Option Res) : Option Res :=
  chk1 (if decide (p3 < p2) = true then
    (if (true && (decide ((0 : Int) ≤ p3) && decide (p3 < (p1.length : Int)))) = true then
     (chk1 (gF40 (p1.getD p3.toNat (⟨#[]⟩ : ByteArray)) p10 fun x2 =>
      chk2 (if decide (x2.1 < (0 : Int)) = true then
        (chk1 (κ ((0 : Int), (10 : Int))))
       else
        (chk1 (if (p0 != (0 : Int)) = true then
          (chk1 (if (x2.2 != p0) = true then
            (κ ((0 : Int), (10 : Int)))
           else
            (chk1 (gL34_0 x2.2 p1 p2 (IntKind.wrap .i64 (p3 + (1 : Int))) p4 p5 p6 p7 p8 p9 p10 K))))
         else
          (if false = true then
           (none)
          else
           (chk1 (gL34_0 x2.2 p1 p2 (IntKind.wrap .i64 (p3 + (1 : Int))) p4 p5 p6 p7 p8 p9 p10 K))))))))
    else
     (none))
   else
    (K (p0, p3)))
def L34_0 : Nat → (Int × Int → Option Res) → Int → (List ByteArray) → Int → Int → Int → Int → Int → ByteArray → Bool → ByteArray → ByteArray → (Int × Int → Option Res) → Option Res
  | 0, _, _, _, _, _, _, _, _, _, _, _, _, _ => none
  | k + 1, κ, p0, p1, p2, p3, p4, p5, p6, p7, p8, p9, p10, K => L34_0_B (F40 k) (fun p0 p1 p2 p3 p4 p5 p6 p7 p8 p9 p10 K => L34_0 k κ p0 p1 p2 p3 p4 p5 p6 p7 p8 p9 p10 K) κ p0 p1 p2 p3 p4 p5 p6 p7 p8 p9 p10 K
def L34_0_s : Tr SC := Tr.of (nthD (.one .undef) [.one .nilp, .one .undef, .one .undef, .one .undef, .one .undef, .one (.ref 5 0), .one .undef, .one .undef, .one .undef, .one (.int .i64), .one .undef, .one .undef, .one .undef, .one .undef, .one .undef, .one .undef, .one .undef, .one .undef, .one .undef, .one .undef, .one .undef, .one .undef, .one .undef, .one (.list .str .no), .one (.int .i64), .one (.int .i64)]) 6
def L34_0_b : Tr (List SC) := Tr.of (nthD [] [[], [], [], [], [], [.one (.int .i64), .one (.int .i64), .one (.int .i64), .one .str, .one .bool, .one .str, .one .str]]) 6
def L34_0_m (g : Int → (List ByteArray) → Int → Int → Int → Int → Int → ByteArray → Bool → ByteArray → ByteArray → (Int × Int → Option Res) → Option Res) (lf : LoopF) : LoopF := fun p σ K => match pathEq p [true, true, true, true, false, true, false] with
  | true => match okSt 53 L34_0_s L34_0_b σ with
    | true => g (intOf (Tr.val .undef (Tr.lft (Tr.rgt (Tr.lft σ.slots))))) (listOf .str (Tr.val .undef (Tr.rgt (Tr.lft (Tr.lft (Tr.lft σ.slots)))))) (intOf (Tr.val .undef (Tr.rgt (Tr.lft (Tr.lft (Tr.rgt σ.slots)))))) (intOf (Tr.val .undef (Tr.rgt (Tr.lft (Tr.rgt (Tr.lft σ.slots)))))) (intOf (nth (Tr.val [] (Tr.rgt (Tr.lft σ.boxes))) 0)) (intOf (nth (Tr.val [] (Tr.rgt (Tr.lft σ.boxes))) 1)) (intOf (nth (Tr.val [] (Tr.rgt (Tr.lft σ.boxes))) 2)) (stringOf (nth (Tr.val [] (Tr.rgt (Tr.lft σ.boxes))) 3)) (boolOf (nth (Tr.val [] (Tr.rgt (Tr.lft σ.boxes))) 4)) (stringOf (nth (Tr.val [] (Tr.rgt (Tr.lft σ.boxes))) 5)) (stringOf (nth (Tr.val [] (Tr.rgt (Tr.lft σ.boxes))) 6)) (fun v => K (.exit 0) ⟨53, Tr.of (nthD .undef [.nilp, .undef, .undef, .undef, .undef, .ref 5 0, .undef, .undef, .undef, .int .i64 v.1, .undef, .undef, .undef, .undef, .undef, .undef, .undef, .undef, .undef, .undef, .undef, .undef, .undef, .list .str (listOf .str (Tr.val .undef (Tr.rgt (Tr.lft (Tr.lft (Tr.lft σ.slots)))))) .no, .int .i64 (intOf (Tr.val .undef (Tr.rgt (Tr.lft (Tr.lft (Tr.rgt σ.slots)))))), .int .i64 v.2]) 6, Tr.of (nthD [] [[], [], [], [], [], [.int .i64 (intOf (nth (Tr.val [] (Tr.rgt (Tr.lft σ.boxes))) 0)), .int .i64 (intOf (nth (Tr.val [] (Tr.rgt (Tr.lft σ.boxes))) 1)), .int .i64 (intOf (nth (Tr.val [] (Tr.rgt (Tr.lft σ.boxes))) 2)), .str (stringOf (nth (Tr.val [] (Tr.rgt (Tr.lft σ.boxes))) 3)), .bool (boolOf (nth (Tr.val [] (Tr.rgt (Tr.lft σ.boxes))) 4)), .str (stringOf (nth (Tr.val [] (Tr.rgt (Tr.lft σ.boxes))) 5)), .str (stringOf (nth (Tr.val [] (Tr.rgt (Tr.lft σ.boxes))) 6))]]) 6⟩)
    | false => lf p σ K
  | false => lf p σ K
theorem L34_0_d (k : Nat) (κ : Res → Option Res) (h : ∀ (p0 : Int) (p1 : (List ByteArray)) (p2 : Int) (p3 : Int) (p4 : Int) (p5 : Int) (p6 : Int) (p7 : ByteArray) (p8 : Bool) (p9 : ByteArray) (p10 : ByteArray) (K : Cont), (ev Try.prog cfg k).loop 34 0 κ [true, true, true, true, false, true, false] ⟨53, Tr.of (nthD .undef [.nilp, .undef, .undef, .undef, .undef, .ref 5 0, .undef, .undef, .undef, .int .i64 p0, .undef, .undef, .undef, .undef, .undef, .undef, .undef, .undef, .undef, .undef, .undef, .undef, .undef, .list .str p1 .no, .int .i64 p2, .int .i64 p3]) 6, Tr.of (nthD [] [[], [], [], [], [], [.int .i64 p4, .int .i64 p5, .int .i64 p6, .str p7, .bool p8, .str p9, .str p10]]) 6⟩ K = L34_0 k (fun x => κ ((.tup [.int .i64 x.1, .int .i64 x.2], []) : Res)) p0 p1 p2 p3 p4 p5 p6 p7 p8 p9 p10 (fun v => K (.exit 0) ⟨53, Tr.of (nthD .undef [.nilp, .undef, .undef, .undef, .undef, .ref 5 0, .undef, .undef, .undef, .int .i64 v.1, .undef, .undef, .undef, .undef, .undef, .undef, .undef, .undef, .undef, .undef, .undef, .undef, .undef, .list .str p1 .no, .int .i64 p2, .int .i64 v.2]) 6, Tr.of (nthD [] [[], [], [], [], [], [.int .i64 p4, .int .i64 p5, .int .i64 p6, .str p7, .bool p8, .str p9, .str p10]]) 6⟩)) : L34_0_m (L34_0 k (fun x => κ ((.tup [.int .i64 x.1, .int .i64 x.2], []) : Res))) ((ev Try.prog cfg k).loop 34 0 κ) = (ev Try.prog cfg k).loop 34 0 κ := by
  funext p σ K
  unfold L34_0_m
  split
  · rename_i hp
    split
    · rename_i hs
      have e : mkSt 53 L34_0_s L34_0_b σ = ⟨53, Tr.of (nthD .undef [.nilp, .undef, .undef, .undef, .undef, .ref 5 0, .undef, .undef, .undef, .int .i64 (intOf (Tr.val .undef (Tr.lft (Tr.rgt (Tr.lft σ.slots))))), .undef, .undef, .undef, .undef, .undef, .undef, .undef, .undef, .undef, .undef, .undef, .undef, .undef, .list .str (listOf .str (Tr.val .undef (Tr.rgt (Tr.lft (Tr.lft (Tr.lft σ.slots)))))) .no, .int .i64 (intOf (Tr.val .undef (Tr.rgt (Tr.lft (Tr.lft (Tr.rgt σ.slots)))))), .int .i64 (intOf (Tr.val .undef (Tr.rgt (Tr.lft (Tr.rgt (Tr.lft σ.slots))))))]) 6, Tr.of (nthD [] [[], [], [], [], [], [.int .i64 (intOf (nth (Tr.val [] (Tr.rgt (Tr.lft σ.boxes))) 0)), .int .i64 (intOf (nth (Tr.val [] (Tr.rgt (Tr.lft σ.boxes))) 1)), .int .i64 (intOf (nth (Tr.val [] (Tr.rgt (Tr.lft σ.boxes))) 2)), .str (stringOf (nth (Tr.val [] (Tr.rgt (Tr.lft σ.boxes))) 3)), .bool (boolOf (nth (Tr.val [] (Tr.rgt (Tr.lft σ.boxes))) 4)), .str (stringOf (nth (Tr.val [] (Tr.rgt (Tr.lft σ.boxes))) 5)), .str (stringOf (nth (Tr.val [] (Tr.rgt (Tr.lft σ.boxes))) 6))]]) 6⟩ := by kernel_rfl
      rw [pathEq_eq hp]
      exact (h (intOf (Tr.val .undef (Tr.lft (Tr.rgt (Tr.lft σ.slots))))) (listOf .str (Tr.val .undef (Tr.rgt (Tr.lft (Tr.lft (Tr.lft σ.slots)))))) (intOf (Tr.val .undef (Tr.rgt (Tr.lft (Tr.lft (Tr.rgt σ.slots)))))) (intOf (Tr.val .undef (Tr.rgt (Tr.lft (Tr.rgt (Tr.lft σ.slots)))))) (intOf (nth (Tr.val [] (Tr.rgt (Tr.lft σ.boxes))) 0)) (intOf (nth (Tr.val [] (Tr.rgt (Tr.lft σ.boxes))) 1)) (intOf (nth (Tr.val [] (Tr.rgt (Tr.lft σ.boxes))) 2)) (stringOf (nth (Tr.val [] (Tr.rgt (Tr.lft σ.boxes))) 3)) (boolOf (nth (Tr.val [] (Tr.rgt (Tr.lft σ.boxes))) 4)) (stringOf (nth (Tr.val [] (Tr.rgt (Tr.lft σ.boxes))) 5)) (stringOf (nth (Tr.val [] (Tr.rgt (Tr.lft σ.boxes))) 6)) K).symm.trans (congrArg (fun s => (ev Try.prog cfg k).loop 34 0 κ [true, true, true, true, false, true, false] s K) (e.symm.trans (okSt_eq hs).symm))
    · rfl
  · rfl
theorem L34_0_k (gF40 : tF40) (gL34_0 : tL34_0) (cf : CallF) (lf : LoopF) (κ : Res → Option Res) (p0 : Int) (p1 : (List ByteArray)) (p2 : Int) (p3 : Int) (p4 : Int) (p5 : Int) (p6 : Int) (p7 : ByteArray) (p8 : Bool) (p9 : ByteArray) (p10 : ByteArray) (K : Cont) : evLp Try.prog cfg (F40_m gF40 cf) (L34_0_m gL34_0 lf) 34 0 κ [true, true, true, true, false, true, false] ⟨53, Tr.of (nthD .undef [.nilp, .undef, .undef, .undef, .undef, .ref 5 0, .undef, .undef, .undef, .int .i64 p0, .undef, .undef, .undef, .undef, .undef, .undef, .undef, .undef, .undef, .undef, .undef, .undef, .undef, .list .str p1 .no, .int .i64 p2, .int .i64 p3]) 6, Tr.of (nthD [] [[], [], [], [], [], [.int .i64 p4, .int .i64 p5, .int .i64 p6, .str p7, .bool p8, .str p9, .str p10]]) 6⟩ K = L34_0_B gF40 gL34_0 (fun x => κ ((.tup [.int .i64 x.1, .int .i64 x.2], []) : Res)) p0 p1 p2 p3 p4 p5 p6 p7 p8 p9 p10 (fun v => K (.exit 0) ⟨53, Tr.of (nthD .undef [.nilp, .undef, .undef, .undef, .undef, .ref 5 0, .undef, .undef, .undef, .int .i64 v.1, .undef, .undef, .undef, .undef, .undef, .undef, .undef, .undef, .undef, .undef, .undef, .undef, .undef, .list .str p1 .no, .int .i64 p2, .int .i64 v.2]) 6, Tr.of (nthD [] [[], [], [], [], [], [.int .i64 p4, .int .i64 p5, .int .i64 p6, .str p7, .bool p8, .str p9, .str p10]]) 6⟩) := by
  kernel_rfl
theorem L34_0_ev : ∀ (k : Nat) (κ : Res → Option Res) (p0 : Int) (p1 : (List ByteArray)) (p2 : Int) (p3 : Int) (p4 : Int) (p5 : Int) (p6 : Int) (p7 : ByteArray) (p8 : Bool) (p9 : ByteArray) (p10 : ByteArray) (K : Cont), (ev Try.prog cfg k).loop 34 0 κ [true, true, true, true, false, true, false] ⟨53, Tr.of (nthD .undef [.nilp, .undef, .undef, .undef, .undef, .ref 5 0, .undef, .undef, .undef, .int .i64 p0, .undef, .undef, .undef, .undef, .undef, .undef, .undef, .undef, .undef, .undef, .undef, .undef, .undef, .list .str p1 .no, .int .i64 p2, .int .i64 p3]) 6, Tr.of (nthD [] [[], [], [], [], [], [.int .i64 p4, .int .i64 p5, .int .i64 p6, .str p7, .bool p8, .str p9, .str p10]]) 6⟩ K = L34_0 k (fun x => κ ((.tup [.int .i64 x.1, .int .i64 x.2], []) : Res)) p0 p1 p2 p3 p4 p5 p6 p7 p8 p9 p10 (fun v => K (.exit 0) ⟨53, Tr.of (nthD .undef [.nilp, .undef, .undef, .undef, .undef, .ref 5 0, .undef, .undef, .undef, .int .i64 v.1, .undef, .undef, .undef, .undef, .undef, .undef, .undef, .undef, .undef, .undef, .undef, .undef, .undef, .list .str p1 .no, .int .i64 p2, .int .i64 v.2]) 6, Tr.of (nthD [] [[], [], [], [], [], [.int .i64 p4, .int .i64 p5, .int .i64 p6, .str p7, .bool p8, .str p9, .str p10]]) 6⟩) := by
  intro k κ
  induction k with
  | zero => intro p0 p1 p2 p3 p4 p5 p6 p7 p8 p9 p10 K; rfl
  | succ k ih =>
    intro p0 p1 p2 p3 p4 p5 p6 p7 p8 p9 p10 K
    rw [ev_loop, ← F40_d k (F40_ev k), ← L34_0_d k κ ih]
    exact L34_0_k _ _ _ _ κ p0 p1 p2 p3 p4 p5 p6 p7 p8 p9 p10 K
def F34_B (gF38 : tF38) (gF40 : tF40) (gL34_0 : tL34_0) (a1 : T3) (a2 : T7) (κ : Int × Int → Option Res) : Option Res :=
  chk3 (gF38 a1 a2.1 a2.2.1.1 a2.2.1.2.1 a2.2.1.2.2.1 a2.2.1.2.2.2 a2.2.2.1 a2.2.2.2 fun x1 =>
   chk2 (if decide (x1.1 < (0 : Int)) = true then
     (κ ((0 : Int), (3 : Int)))
    else
     (if (true && (decide ((0 : Int) ≤ x1.1) && decide (x1.1 < (a1.length : Int)))) = true then
      (chk1 (gL34_0 (0 : Int) ((a1.getD x1.1.toNat ((⟨#[]⟩ : ByteArray), ([] : List ByteArray))).2) (((a1.getD x1.1.toNat ((⟨#[]⟩ : ByteArray), ([] : List ByteArray))).2).length : Int) (0 : Int) x1.2.1 x1.2.2.1 x1.2.2.2.1 x1.2.2.2.2.1 x1.2.2.2.2.2.1 x1.2.2.2.2.2.2.1 x1.2.2.2.2.2.2.2 fun v3 =>
       chk1 (if (v3.1 == (0 : Int)) = true then
         (κ ((0 : Int), (10 : Int)))
        else
         (κ (v3.1, (0 : Int))))))
     else
      (none))))
/-- lamplighter/typing.field -/
def F34 : Nat → T3 → T7 → (Int × Int → Option Res) → Option Res
  | 0, _, _, _ => none
  | k + 1, a1, a2, κ => F34_B (F38 k) (F40 k) (L34_0 k κ) a1 a2 κ
def F34_s : List SC := [.one .nilp, .one (.list (.pair .str (.list .str)) .no), .agg [.int .i64, .int .i64, .int .i64, .str, .bool, .str, .str]]
def F34_b : List (List SC) := []
def F34_m (g : T3 → T7 → (Int × Int → Option Res) → Option Res) (cf : CallF) : CallF := fun f args lent κ => match Nat.beq f 34 with
  | true => match okC F34_s args && okB F34_b lent with
    | true => g (listOf (.pair .str (.list .str)) (nth args 1)) ((intOf (nth (aggOf (nth args 2)) 0)), (((intOf (nth (aggOf (nth args 2)) 1)), ((intOf (nth (aggOf (nth args 2)) 2)), ((stringOf (nth (aggOf (nth args 2)) 3)), (boolOf (nth (aggOf (nth args 2)) 4))))), ((stringOf (nth (aggOf (nth args 2)) 5)), (stringOf (nth (aggOf (nth args 2)) 6))))) (fun x => κ ((.tup [.int .i64 x.1, .int .i64 x.2], []) : Res))
    | false => cf f args lent κ
  | false => cf f args lent κ
theorem F34_d (k : Nat) (h : ∀ (a1 : T3) (a2 : T7) (κ : Res → Option Res), (ev Try.prog cfg k).call 34 [.nilp, .list (.pair .str (.list .str)) a1 .no, .agg [.int .i64 a2.1, .int .i64 a2.2.1.1, .int .i64 a2.2.1.2.1, .str a2.2.1.2.2.1, .bool a2.2.1.2.2.2, .str a2.2.2.1, .str a2.2.2.2]] [] κ = F34 k a1 a2 (fun x => κ ((.tup [.int .i64 x.1, .int .i64 x.2], []) : Res))) : F34_m (F34 k) (ev Try.prog cfg k).call = (ev Try.prog cfg k).call := by
  funext f args lent κ
  unfold F34_m
  split
  · rename_i hp
    split
    · rename_i hs
      rw [Bool.and_eq_true] at hs
      have e : mkC F34_s 0 args = [.nilp, .list (.pair .str (.list .str)) (listOf (.pair .str (.list .str)) (nth args 1)) .no, .agg [.int .i64 (intOf (nth (aggOf (nth args 2)) 0)), .int .i64 (intOf (nth (aggOf (nth args 2)) 1)), .int .i64 (intOf (nth (aggOf (nth args 2)) 2)), .str (stringOf (nth (aggOf (nth args 2)) 3)), .bool (boolOf (nth (aggOf (nth args 2)) 4)), .str (stringOf (nth (aggOf (nth args 2)) 5)), .str (stringOf (nth (aggOf (nth args 2)) 6))]] := by kernel_rfl
      have e' : mkB F34_b 0 lent = [] := by kernel_rfl
      obtain rfl := Nat.eq_of_beq_eq_true hp
      exact (h (listOf (.pair .str (.list .str)) (nth args 1)) ((intOf (nth (aggOf (nth args 2)) 0)), (((intOf (nth (aggOf (nth args 2)) 1)), ((intOf (nth (aggOf (nth args 2)) 2)), ((stringOf (nth (aggOf (nth args 2)) 3)), (boolOf (nth (aggOf (nth args 2)) 4))))), ((stringOf (nth (aggOf (nth args 2)) 5)), (stringOf (nth (aggOf (nth args 2)) 6))))) κ).symm.trans (cong2 (fun a l => (ev Try.prog cfg k).call 34 a l κ) (e.symm.trans (okC_eq hs.1).symm) (e'.symm.trans (okB_eq hs.2).symm))
    · rfl
  · rfl
theorem F34_k (gF38 : tF38) (gF40 : tF40) (gL34_0 : tL34_0) (cf : CallF) (lf : LoopF) (a1 : T3) (a2 : T7) (κ : Res → Option Res) : evFn Try.prog cfg (F38_m gF38 (F40_m gF40 cf)) (L34_0_m gL34_0 lf) 34 [.nilp, .list (.pair .str (.list .str)) a1 .no, .agg [.int .i64 a2.1, .int .i64 a2.2.1.1, .int .i64 a2.2.1.2.1, .str a2.2.1.2.2.1, .bool a2.2.1.2.2.2, .str a2.2.2.1, .str a2.2.2.2]] [] κ = F34_B gF38 gF40 gL34_0 a1 a2 (fun x => κ ((.tup [.int .i64 x.1, .int .i64 x.2], []) : Res)) := by
  kernel_rfl
theorem F34_ev : ∀ (k : Nat) (a1 : T3) (a2 : T7) (κ : Res → Option Res), (ev Try.prog cfg k).call 34 [.nilp, .list (.pair .str (.list .str)) a1 .no, .agg [.int .i64 a2.1, .int .i64 a2.2.1.1, .int .i64 a2.2.1.2.1, .str a2.2.1.2.2.1, .bool a2.2.1.2.2.2, .str a2.2.2.1, .str a2.2.2.2]] [] κ = F34 k a1 a2 (fun x => κ ((.tup [.int .i64 x.1, .int .i64 x.2], []) : Res)) := by
  intro k
  induction k with
  | zero => intros; rfl
  | succ k ih =>
    intro a1 a2 κ
    refine (ev_call' Try.prog cfg k 34 0 _ _ κ (by rfl)).trans ?_
    rw [← F38_d k (F38_ev k), ← F40_d k (F40_ev k), ← L34_0_d k κ (L34_0_ev k κ)]
    exact F34_k _ _ _ _ _ a1 a2 κ
def F43_B  (a0 : Int) (b0_0 : Int) (κ : Bool × Int → Option Res) : Option Res :=
  chk1 (κ ((a0 != b0_0), b0_0))
/-- lamplighter/typing.apply$1$1 -/
def F43 : Nat → Int → Int → (Bool × Int → Option Res) → Option Res
  | 0, _, _, _ => none
  | k + 1, a0, b0_0, κ => F43_B  a0 b0_0 κ
def F43_s : List SC := [.one (.int .i64), .one (.ref 0 0)]
def F43_b : List (List SC) := [[.one (.int .i64)]]
def F43_m (g : Int → Int → (Bool × Int → Option Res) → Option Res) (cf : CallF) : CallF := fun f args lent κ => match Nat.beq f 43 with
  | true => match okC F43_s args && okB F43_b lent with
    | true => g (intOf (nth args 0)) (intOf (nth (nthB lent 0) 0)) (fun x => κ ((.bool x.1, [[.int .i64 x.2]]) : Res))
    | false => cf f args lent κ
  | false => cf f args lent κ
theorem F43_d (k : Nat) (h : ∀ (a0 : Int) (b0_0 : Int) (κ : Res → Option Res), (ev Try.prog cfg k).call 43 [.int .i64 a0, .ref 0 0] [[.int .i64 b0_0]] κ = F43 k a0 b0_0 (fun x => κ ((.bool x.1, [[.int .i64 x.2]]) : Res))) : F43_m (F43 k) (ev Try.prog cfg k).call = (ev Try.prog cfg k).call := by
  funext f args lent κ
  unfold F43_m
  split
  · rename_i hp
    split
    · rename_i hs
      rw [Bool.and_eq_true] at hs
      have e : mkC F43_s 0 args = [.int .i64 (intOf (nth args 0)), .ref 0 0] := by kernel_rfl
      have e' : mkB F43_b 0 lent = [[.int .i64 (intOf (nth (nthB lent 0) 0))]] := by kernel_rfl
      obtain rfl := Nat.eq_of_beq_eq_true hp
      exact (h (intOf (nth args 0)) (intOf (nth (nthB lent 0) 0)) κ).symm.trans (cong2 (fun a l => (ev Try.prog cfg k).call 43 a l κ) (e.symm.trans (okC_eq hs.1).symm) (e'.symm.trans (okB_eq hs.2).symm))
    · rfl
  · rfl
theorem F43_k  (cf : CallF) (lf : LoopF) (a0 : Int) (b0_0 : Int) (κ : Res → Option Res) : evFn Try.prog cfg cf lf 43 [.int .i64 a0, .ref 0 0] [[.int .i64 b0_0]] κ = F43_B  a0 b0_0 (fun x => κ ((.bool x.1, [[.int .i64 x.2]]) : Res)) := by
  kernel_rfl
theorem F43_ev : ∀ (k : Nat) (a0 : Int) (b0_0 : Int) (κ : Res → Option Res), (ev Try.prog cfg k).call 43 [.int .i64 a0, .ref 0 0] [[.int .i64 b0_0]] κ = F43 k a0 b0_0 (fun x => κ ((.bool x.1, [[.int .i64 x.2]]) : Res)) := by
  intro k
  induction k with
  | zero => intros; rfl
  | succ k ih =>
    intro a0 b0_0 κ
    refine (ev_call' Try.prog cfg k 43 1 _ _ κ (by rfl)).trans ?_
    skip
    exact F43_k  _ _ a0 b0_0 κ
def L45_0_B (gF43 : tF43) (gL45_0 : tL45_0) (κ : Int × Int → Option Res) (p0 : (List Int)) (p1 : Int) (p2 : Int) (p3 : Int) (K : Int × Int → Option Res) : Option Res :=
  chk1 (if decide (p2 < p1) = true then
    (if (true && (decide ((0 : Int) ≤ p2) && decide (p2 < (p0.length : Int)))) = true then
     (chk1 (gF43 (p0.getD p2.toNat (0 : Int)) p3 fun x1 =>
      chk1 (if x1.1 = true then
        (κ (p2, x1.2))
       else
        (chk1 (gL45_0 p0 p1 (IntKind.wrap .i64 (p2 + (1 : Int))) x1.2 K)))))
    else
     (none))
   else
    (K (p2, p3)))
def L45_0 : Nat → (Int × Int → Option Res) → (List Int) → Int → Int → Int → (Int × Int → Option Res) → Option Res
  | 0, _, _, _, _, _, _ => none
  | k + 1, κ, p0, p1, p2, p3, K => L45_0_B (F43 k) (fun p0 p1 p2 p3 K => L45_0 k κ p0 p1 p2 p3 K) κ p0 p1 p2 p3 K
def L45_0_s : Tr SC := Tr.of (nthD (.one .undef) [.one (.list (.int .i64) .no), .fn 43 [.ref 19 0], .one .undef, .one .undef, .one .undef, .one .undef, .one .undef, .one (.int .i64), .one (.int .i64)]) 5
def L45_0_b : Tr (List SC) := Tr.of (nthD [] [[], [], [], [], [], [], [], [], [], [], [], [], [], [], [], [], [], [], [], [.one (.int .i64)]]) 5
def L45_0_m (g : (List Int) → Int → Int → Int → (Int × Int → Option Res) → Option Res) (lf : LoopF) : LoopF := fun p σ K => match pathEq p [true, false, true, false] with
  | true => match okSt 19 L45_0_s L45_0_b σ with
    | true => g (listOf (.int .i64) (Tr.val .undef σ.slots)) (intOf (Tr.val .undef (Tr.lft (Tr.lft (Tr.lft σ.slots))))) (intOf (Tr.val .undef (Tr.lft (Tr.lft (Tr.rgt σ.slots))))) (intOf (nth (Tr.val [] (Tr.lft (Tr.rgt (Tr.lft (Tr.lft σ.boxes))))) 0)) (fun v => K (.exit 0) ⟨19, Tr.of (nthD .undef [.list (.int .i64) (listOf (.int .i64) (Tr.val .undef σ.slots)) .no, .fn 43 [.ref 19 0], .undef, .undef, .undef, .undef, .undef, .int .i64 (intOf (Tr.val .undef (Tr.lft (Tr.lft (Tr.lft σ.slots))))), .int .i64 v.1]) 5, Tr.of (nthD [] [[], [], [], [], [], [], [], [], [], [], [], [], [], [], [], [], [], [], [], [.int .i64 v.2]]) 5⟩)
    | false => lf p σ K
  | false => lf p σ K
theorem L45_0_d (k : Nat) (κ : Res → Option Res) (h : ∀ (p0 : (List Int)) (p1 : Int) (p2 : Int) (p3 : Int) (K : Cont), (ev Try.prog cfg k).loop 45 1 κ [true, false, true, false] ⟨19, Tr.of (nthD .undef [.list (.int .i64) p0 .no, .fn 43 [.ref 19 0], .undef, .undef, .undef, .undef, .undef, .int .i64 p1, .int .i64 p2]) 5, Tr.of (nthD [] [[], [], [], [], [], [], [], [], [], [], [], [], [], [], [], [], [], [], [], [.int .i64 p3]]) 5⟩ K = L45_0 k (fun x => κ ((.int .i64 x.1, [[.int .i64 x.2]]) : Res)) p0 p1 p2 p3 (fun v => K (.exit 0) ⟨19, Tr.of (nthD .undef [.list (.int .i64) p0 .no, .fn 43 [.ref 19 0], .undef, .undef, .undef, .undef, .undef, .int .i64 p1, .int .i64 v.1]) 5, Tr.of (nthD [] [[], [], [], [], [], [], [], [], [], [], [], [], [], [], [], [], [], [], [], [.int .i64 v.2]]) 5⟩)) : L45_0_m (L45_0 k (fun x => κ ((.int .i64 x.1, [[.int .i64 x.2]]) : Res))) ((ev Try.prog cfg k).loop 45 1 κ) = (ev Try.prog cfg k).loop 45 1 κ := by
  funext p σ K
  unfold L45_0_m
  split
  · rename_i hp
    split
    · rename_i hs
      have e : mkSt 19 L45_0_s L45_0_b σ = ⟨19, Tr.of (nthD .undef [.list (.int .i64) (listOf (.int .i64) (Tr.val .undef σ.slots)) .no, .fn 43 [.ref 19 0], .undef, .undef, .undef, .undef, .undef, .int .i64 (intOf (Tr.val .undef (Tr.lft (Tr.lft (Tr.lft σ.slots))))), .int .i64 (intOf (Tr.val .undef (Tr.lft (Tr.lft (Tr.rgt σ.slots)))))]) 5, Tr.of (nthD [] [[], [], [], [], [], [], [], [], [], [], [], [], [], [], [], [], [], [], [], [.int .i64 (intOf (nth (Tr.val [] (Tr.lft (Tr.rgt (Tr.lft (Tr.lft σ.boxes))))) 0))]]) 5⟩ := by kernel_rfl
      rw [pathEq_eq hp]
      exact (h (listOf (.int .i64) (Tr.val .undef σ.slots)) (intOf (Tr.val .undef (Tr.lft (Tr.lft (Tr.lft σ.slots))))) (intOf (Tr.val .undef (Tr.lft (Tr.lft (Tr.rgt σ.slots))))) (intOf (nth (Tr.val [] (Tr.lft (Tr.rgt (Tr.lft (Tr.lft σ.boxes))))) 0)) K).symm.trans (congrArg (fun s => (ev Try.prog cfg k).loop 45 1 κ [true, false, true, false] s K) (e.symm.trans (okSt_eq hs).symm))
    · rfl
  · rfl
theorem L45_0_k (gF43 : tF43) (gL45_0 : tL45_0) (cf : CallF) (lf : LoopF) (κ : Res → Option Res) (p0 : (List Int)) (p1 : Int) (p2 : Int) (p3 : Int) (K : Cont) : evLp Try.prog cfg (F43_m gF43 cf) (L45_0_m gL45_0 lf) 45 1 κ [true, false, true, false] ⟨19, Tr.of (nthD .undef [.list (.int .i64) p0 .no, .fn 43 [.ref 19 0], .undef, .undef, .undef, .undef, .undef, .int .i64 p1, .int .i64 p2]) 5, Tr.of (nthD [] [[], [], [], [], [], [], [], [], [], [], [], [], [], [], [], [], [], [], [], [.int .i64 p3]]) 5⟩ K = L45_0_B gF43 gL45_0 (fun x => κ ((.int .i64 x.1, [[.int .i64 x.2]]) : Res)) p0 p1 p2 p3 (fun v => K (.exit 0) ⟨19, Tr.of (nthD .undef [.list (.int .i64) p0 .no, .fn 43 [.ref 19 0], .undef, .undef, .undef, .undef, .undef, .int .i64 p1, .int .i64 v.1]) 5, Tr.of (nthD [] [[], [], [], [], [], [], [], [], [], [], [], [], [], [], [], [], [], [], [], [.int .i64 v.2]]) 5⟩) := by
  kernel_rfl
theorem L45_0_ev : ∀ (k : Nat) (κ : Res → Option Res) (p0 : (List Int)) (p1 : Int) (p2 : Int) (p3 : Int) (K : Cont), (ev Try.prog cfg k).loop 45 1 κ [true, false, true, false] ⟨19, Tr.of (nthD .undef [.list (.int .i64) p0 .no, .fn 43 [.ref 19 0], .undef, .undef, .undef, .undef, .undef, .int .i64 p1, .int .i64 p2]) 5, Tr.of (nthD [] [[], [], [], [], [], [], [], [], [], [], [], [], [], [], [], [], [], [], [], [.int .i64 p3]]) 5⟩ K = L45_0 k (fun x => κ ((.int .i64 x.1, [[.int .i64 x.2]]) : Res)) p0 p1 p2 p3 (fun v => K (.exit 0) ⟨19, Tr.of (nthD .undef [.list (.int .i64) p0 .no, .fn 43 [.ref 19 0], .undef, .undef, .undef, .undef, .undef, .int .i64 p1, .int .i64 v.1]) 5, Tr.of (nthD [] [[], [], [], [], [], [], [], [], [], [], [], [], [], [], [], [], [], [], [], [.int .i64 v.2]]) 5⟩) := by
  intro k κ
  induction k with
  | zero => intro p0 p1 p2 p3 K; rfl
  | succ k ih =>
    intro p0 p1 p2 p3 K
    rw [ev_loop, ← F43_d k (F43_ev k), ← L45_0_d k κ ih]
    exact L45_0_k _ _ _ _ κ p0 p1 p2 p3 K
def F45_B (gF43 : tF43) (gL45_0 : tL45_0) (a0 : (List Int)) (b0_0 : Int) (κ : Int × Int → Option Res) : Option Res :=
  chk1 (gL45_0 a0 (a0.length : Int) (0 : Int) b0_0 fun v2 =>
   κ ((-1 : Int), v2.2))
/-- slices.IndexFunc[[]int,int] -/
def F45 : Nat → (List Int) → Int → (Int × Int → Option Res) → Option Res
  | 0, _, _, _ => none
  | k + 1, a0, b0_0, κ => F45_B (F43 k) (L45_0 k κ) a0 b0_0 κ
def F45_s : List SC := [.one (.list (.int .i64) .no), .fn 43 [.ref 0 0]]
def F45_b : List (List SC) := [[.one (.int .i64)]]
def F45_m (g : (List Int) → Int → (Int × Int → Option Res) → Option Res) (cf : CallF) : CallF := fun f args lent κ => match Nat.beq f 45 with
  | true => match okC F45_s args && okB F45_b lent with
    | true => g (listOf (.int .i64) (nth args 0)) (intOf (nth (nthB lent 0) 0)) (fun x => κ ((.int .i64 x.1, [[.int .i64 x.2]]) : Res))
    | false => cf f args lent κ
  | false => cf f args lent κ
theorem F45_d (k : Nat) (h : ∀ (a0 : (List Int)) (b0_0 : Int) (κ : Res → Option Res), (ev Try.prog cfg k).call 45 [.list (.int .i64) a0 .no, .fn 43 [.ref 0 0]] [[.int .i64 b0_0]] κ = F45 k a0 b0_0 (fun x => κ ((.int .i64 x.1, [[.int .i64 x.2]]) : Res))) : F45_m (F45 k) (ev Try.prog cfg k).call = (ev Try.prog cfg k).call := by
  funext f args lent κ
  unfold F45_m
  split
  · rename_i hp
    split
    · rename_i hs
      rw [Bool.and_eq_true] at hs
      have e : mkC F45_s 0 args = [.list (.int .i64) (listOf (.int .i64) (nth args 0)) .no, .fn 43 [.ref 0 0]] := by kernel_rfl
      have e' : mkB F45_b 0 lent = [[.int .i64 (intOf (nth (nthB lent 0) 0))]] := by kernel_rfl
      obtain rfl := Nat.eq_of_beq_eq_true hp
      exact (h (listOf (.int .i64) (nth args 0)) (intOf (nth (nthB lent 0) 0)) κ).symm.trans (cong2 (fun a l => (ev Try.prog cfg k).call 45 a l κ) (e.symm.trans (okC_eq hs.1).symm) (e'.symm.trans (okB_eq hs.2).symm))
    · rfl
  · rfl
theorem F45_k (gF43 : tF43) (gL45_0 : tL45_0) (cf : CallF) (lf : LoopF) (a0 : (List Int)) (b0_0 : Int) (κ : Res → Option Res) : evFn Try.prog cfg (F43_m gF43 cf) (L45_0_m gL45_0 lf) 45 [.list (.int .i64) a0 .no, .fn 43 [.ref 0 0]] [[.int .i64 b0_0]] κ = F45_B gF43 gL45_0 a0 b0_0 (fun x => κ ((.int .i64 x.1, [[.int .i64 x.2]]) : Res)) := by
  kernel_rfl
theorem F45_ev : ∀ (k : Nat) (a0 : (List Int)) (b0_0 : Int) (κ : Res → Option Res), (ev Try.prog cfg k).call 45 [.list (.int .i64) a0 .no, .fn 43 [.ref 0 0]] [[.int .i64 b0_0]] κ = F45 k a0 b0_0 (fun x => κ ((.int .i64 x.1, [[.int .i64 x.2]]) : Res)) := by
  intro k
  induction k with
  | zero => intros; rfl
  | succ k ih =>
    intro a0 b0_0 κ
    refine (ev_call' Try.prog cfg k 45 1 _ _ κ (by rfl)).trans ?_
    rw [← F43_d k (F43_ev k), ← L45_0_d k κ (L45_0_ev k κ)]
    exact F45_k _ _ _ _ a0 b0_0 κ
def F42_B (gF45 : tF45) (a0 : (List Int)) (b0_0 : Int) (κ : Bool × Int → Option Res) : Option Res :=
  chk1 (gF45 a0 b0_0 fun x1 =>
   chk2 (κ (decide (x1.1 ≥ (0 : Int)), x1.2)))
/-- slices.ContainsFunc[[]int,int] -/
def F42 : Nat → (List Int) → Int → (Bool × Int → Option Res) → Option Res
  | 0, _, _, _ => none
  | k + 1, a0, b0_0, κ => F42_B (F45 k) a0 b0_0 κ
def F42_s : List SC := [.one (.list (.int .i64) .no), .fn 43 [.ref 0 0]]
def F42_b : List (List SC) := [[.one (.int .i64)]]
def F42_m (g : (List Int) → Int → (Bool × Int → Option Res) → Option Res) (cf : CallF) : CallF := fun f args lent κ => match Nat.beq f 42 with
  | true => match okC F42_s args && okB F42_b lent with
    | true => g (listOf (.int .i64) (nth args 0)) (intOf (nth (nthB lent 0) 0)) (fun x => κ ((.bool x.1, [[.int .i64 x.2]]) : Res))
    | false => cf f args lent κ
  | false => cf f args lent κ
theorem F42_d (k : Nat) (h : ∀ (a0 : (List Int)) (b0_0 : Int) (κ : Res → Option Res), (ev Try.prog cfg k).call 42 [.list (.int .i64) a0 .no, .fn 43 [.ref 0 0]] [[.int .i64 b0_0]] κ = F42 k a0 b0_0 (fun x => κ ((.bool x.1, [[.int .i64 x.2]]) : Res))) : F42_m (F42 k) (ev Try.prog cfg k).call = (ev Try.prog cfg k).call := by
  funext f args lent κ
  unfold F42_m
  split
  · rename_i hp
    split
    · rename_i hs
      rw [Bool.and_eq_true] at hs
      have e : mkC F42_s 0 args = [.list (.int .i64) (listOf (.int .i64) (nth args 0)) .no, .fn 43 [.ref 0 0]] := by kernel_rfl
      have e' : mkB F42_b 0 lent = [[.int .i64 (intOf (nth (nthB lent 0) 0))]] := by kernel_rfl
      obtain rfl := Nat.eq_of_beq_eq_true hp
      exact (h (listOf (.int .i64) (nth args 0)) (intOf (nth (nthB lent 0) 0)) κ).symm.trans (cong2 (fun a l => (ev Try.prog cfg k).call 42 a l κ) (e.symm.trans (okC_eq hs.1).symm) (e'.symm.trans (okB_eq hs.2).symm))
    · rfl
  · rfl
theorem F42_k (gF45 : tF45) (cf : CallF) (lf : LoopF) (a0 : (List Int)) (b0_0 : Int) (κ : Res → Option Res) : evFn Try.prog cfg (F45_m gF45 cf) lf 42 [.list (.int .i64) a0 .no, .fn 43 [.ref 0 0]] [[.int .i64 b0_0]] κ = F42_B gF45 a0 b0_0 (fun x => κ ((.bool x.1, [[.int .i64 x.2]]) : Res)) := by
  kernel_rfl
theorem F42_ev : ∀ (k : Nat) (a0 : (List Int)) (b0_0 : Int) (κ : Res → Option Res), (ev Try.prog cfg k).call 42 [.list (.int .i64) a0 .no, .fn 43 [.ref 0 0]] [[.int .i64 b0_0]] κ = F42 k a0 b0_0 (fun x => κ ((.bool x.1, [[.int .i64 x.2]]) : Res)) := by
  intro k
  induction k with
  | zero => intros; rfl
  | succ k ih =>
    intro a0 b0_0 κ
    refine (ev_call' Try.prog cfg k 42 1 _ _ κ (by rfl)).trans ?_
    rw [← F45_d k (F45_ev k)]
    exact F42_k _ _ _ a0 b0_0 κ
def F41_B (gF42 : tF42) (a0 : Int) (b0_0 : (List Int)) (κ : Bool × (List Int) → Option Res) : Option Res :=
  chk3 (gF42 b0_0 a0 fun x1 =>
   chk1 (κ ((!x1.1), b0_0)))
/-- lamplighter/typing.apply$1 -/
def F41 : Nat → Int → (List Int) → (Bool × (List Int) → Option Res) → Option Res
  | 0, _, _, _ => none
  | k + 1, a0, b0_0, κ => F41_B (F42 k) a0 b0_0 κ
def F41_s : List SC := [.one (.int .i64), .one (.ref 0 0)]
def F41_b : List (List SC) := [[.one (.list (.int .i64) .no)]]
def F41_m (g : Int → (List Int) → (Bool × (List Int) → Option Res) → Option Res) (cf : CallF) : CallF := fun f args lent κ => match Nat.beq f 41 with
  | true => match okC F41_s args && okB F41_b lent with
    | true => g (intOf (nth args 0)) (listOf (.int .i64) (nth (nthB lent 0) 0)) (fun x => κ ((.bool x.1, [[.list (.int .i64) x.2 .no]]) : Res))
    | false => cf f args lent κ
  | false => cf f args lent κ
theorem F41_d (k : Nat) (h : ∀ (a0 : Int) (b0_0 : (List Int)) (κ : Res → Option Res), (ev Try.prog cfg k).call 41 [.int .i64 a0, .ref 0 0] [[.list (.int .i64) b0_0 .no]] κ = F41 k a0 b0_0 (fun x => κ ((.bool x.1, [[.list (.int .i64) x.2 .no]]) : Res))) : F41_m (F41 k) (ev Try.prog cfg k).call = (ev Try.prog cfg k).call := by
  funext f args lent κ
  unfold F41_m
  split
  · rename_i hp
    split
    · rename_i hs
      rw [Bool.and_eq_true] at hs
      have e : mkC F41_s 0 args = [.int .i64 (intOf (nth args 0)), .ref 0 0] := by kernel_rfl
      have e' : mkB F41_b 0 lent = [[.list (.int .i64) (listOf (.int .i64) (nth (nthB lent 0) 0)) .no]] := by kernel_rfl
      obtain rfl := Nat.eq_of_beq_eq_true hp
      exact (h (intOf (nth args 0)) (listOf (.int .i64) (nth (nthB lent 0) 0)) κ).symm.trans (cong2 (fun a l => (ev Try.prog cfg k).call 41 a l κ) (e.symm.trans (okC_eq hs.1).symm) (e'.symm.trans (okB_eq hs.2).symm))
    · rfl
  · rfl
theorem F41_k (gF42 : tF42) (cf : CallF) (lf : LoopF) (a0 : Int) (b0_0 : (List Int)) (κ : Res → Option Res) : evFn Try.prog cfg (F42_m gF42 cf) lf 41 [.int .i64 a0, .ref 0 0] [[.list (.int .i64) b0_0 .no]] κ = F41_B gF42 a0 b0_0 (fun x => κ ((.bool x.1, [[.list (.int .i64) x.2 .no]]) : Res)) := by
  kernel_rfl
theorem F41_ev : ∀ (k : Nat) (a0 : Int) (b0_0 : (List Int)) (κ : Res → Option Res), (ev Try.prog cfg k).call 41 [.int .i64 a0, .ref 0 0] [[.list (.int .i64) b0_0 .no]] κ = F41 k a0 b0_0 (fun x => κ ((.bool x.1, [[.list (.int .i64) x.2 .no]]) : Res)) := by
  intro k
  induction k with
  | zero => intros; rfl
  | succ k ih =>
    intro a0 b0_0 κ
    refine (ev_call' Try.prog cfg k 41 1 _ _ κ (by rfl)).trans ?_
    rw [← F42_d k (F42_ev k)]
    exact F41_k _ _ _ a0 b0_0 κ
def F35_B (gF41 : tF41) (a0 : Int) (a1 : (List Int)) (κ : Int → Option Res) : Option Res :=
  chk3 (if (a0 == (3 : Int)) = true then
    (chk2 (gF41 (1 : Int) a1 fun x1 =>
     chk1 (if x1.1 = true then
       (κ (1 : Int))
      else
       (κ (0 : Int)))))
   else
    (chk1 (if (a0 == (4 : Int)) = true then
      (chk2 (gF41 (1 : Int) a1 fun x2 =>
       chk1 (if x2.1 = true then
         (κ (1 : Int))
        else
         (κ (0 : Int)))))
     else
      (chk1 (if (a0 == (5 : Int)) = true then
        (chk2 (gF41 (1 : Int) a1 fun x3 =>
         chk1 (if x3.1 = true then
           (κ (1 : Int))
          else
           (κ (0 : Int)))))
       else
        (chk1 (if (a0 == (6 : Int)) = true then
          (chk1 (gF41 (1 : Int) a1 fun x4 =>
           chk1 (if x4.1 = true then
             (κ (1 : Int))
            else
             (κ (0 : Int)))))
         else
          (chk1 (if (a0 == (7 : Int)) = true then
            (chk1 (if (true && (true && decide ((0 : Int) < (a1.length : Int)))) = true then
              (if (true && (true && decide ((1 : Int) < (a1.length : Int)))) = true then
               (chk1 (if ((a1.getD (0 : Int).toNat (0 : Int)) == (a1.getD (1 : Int).toNat (0 : Int))) = true then
                 (κ (3 : Int))
                else
                 (κ (0 : Int))))
              else
               (none))
             else
              (none)))
           else
            (chk1 (if (a0 == (8 : Int)) = true then
              (chk1 (if (true && (true && decide ((0 : Int) < (a1.length : Int)))) = true then
                (if (true && (true && decide ((1 : Int) < (a1.length : Int)))) = true then
                 (chk1 (if ((a1.getD (0 : Int).toNat (0 : Int)) == (a1.getD (1 : Int).toNat (0 : Int))) = true then
                   (κ (3 : Int))
                  else
                   (κ (0 : Int))))
                else
                 (none))
               else
                (none)))
             else
              (chk1 (if (a0 == (9 : Int)) = true then
                (chk1 (if (true && (true && decide ((0 : Int) < (a1.length : Int)))) = true then
                  (if (true && (true && decide ((1 : Int) < (a1.length : Int)))) = true then
                   (chk1 (if ((a1.getD (0 : Int).toNat (0 : Int)) == (a1.getD (1 : Int).toNat (0 : Int))) = true then
                     (κ (3 : Int))
                    else
                     (κ (0 : Int))))
                  else
                   (none))
                 else
                  (none)))
               else
                (chk1 (if (a0 == (10 : Int)) = true then
                  (chk1 (if (true && (true && decide ((0 : Int) < (a1.length : Int)))) = true then
                    (if (true && (true && decide ((1 : Int) < (a1.length : Int)))) = true then
                     (chk1 (if ((a1.getD (0 : Int).toNat (0 : Int)) == (a1.getD (1 : Int).toNat (0 : Int))) = true then
                       (κ (3 : Int))
                      else
                       (κ (0 : Int))))
                    else
                     (none))
                   else
                    (none)))
                 else
                  (chk1 (if (a0 == (11 : Int)) = true then
                    (chk1 (if (true && (true && decide ((0 : Int) < (a1.length : Int)))) = true then
                      (if (true && (true && decide ((1 : Int) < (a1.length : Int)))) = true then
                       (chk1 (if ((a1.getD (0 : Int).toNat (0 : Int)) == (a1.getD (1 : Int).toNat (0 : Int))) = true then
                         (κ (3 : Int))
                        else
                         (κ (0 : Int))))
                      else
                       (none))
                     else
                      (none)))
                   else
                    (chk1 (if (a0 == (12 : Int)) = true then
                      (if (true && (true && decide ((0 : Int) < (a1.length : Int)))) = true then
                       (if (true && (true && decide ((1 : Int) < (a1.length : Int)))) = true then
                        (chk1 (if ((a1.getD (0 : Int).toNat (0 : Int)) == (a1.getD (1 : Int).toNat (0 : Int))) = true then
                          (κ (3 : Int))
                         else
                          (κ (0 : Int))))
                       else
                        (none))
                      else
                       (none))
                     else
                      (chk1 (if (a0 == (13 : Int)) = true then
                        (chk2 (gF41 (3 : Int) a1 fun x5 =>
                         chk1 (if x5.1 = true then
                           (κ (3 : Int))
                          else
                           (κ (0 : Int)))))
                       else
                        (chk1 (if (a0 == (14 : Int)) = true then
                          (chk2 (gF41 (3 : Int) a1 fun x6 =>
                           chk1 (if x6.1 = true then
                             (κ (3 : Int))
                            else
                             (κ (0 : Int)))))
                         else
                          (chk1 (if (a0 == (15 : Int)) = true then
                            (chk1 (gF41 (3 : Int) a1 fun x7 =>
                             chk1 (if x7.1 = true then
                               (κ (3 : Int))
                              else
                               (κ (0 : Int)))))
                           else
                            (κ (0 : Int)))))))))))))))))))))))))))
/-- lamplighter/typing.apply -/
def F35 : Nat → Int → (List Int) → (Int → Option Res) → Option Res
  | 0, _, _, _ => none
  | k + 1, a0, a1, κ => F35_B (F41 k) a0 a1 κ
def F35_s : List SC := [.one (.int .i64), .one (.list (.int .i64) .no)]
def F35_b : List (List SC) := []
def F35_m (g : Int → (List Int) → (Int → Option Res) → Option Res) (cf : CallF) : CallF := fun f args lent κ => match Nat.beq f 35 with
  | true => match okC F35_s args && okB F35_b lent with
    | true => g (intOf (nth args 0)) (listOf (.int .i64) (nth args 1)) (fun x => κ ((.int .i64 x, []) : Res))
    | false => cf f args lent κ
  | false => cf f args lent κ
theorem F35_d (k : Nat) (h : ∀ (a0 : Int) (a1 : (List Int)) (κ : Res → Option Res), (ev Try.prog cfg k).call 35 [.int .i64 a0, .list (.int .i64) a1 .no] [] κ = F35 k a0 a1 (fun x => κ ((.int .i64 x, []) : Res))) : F35_m (F35 k) (ev Try.prog cfg k).call = (ev Try.prog cfg k).call := by
  funext f args lent κ
  unfold F35_m
  split
  · rename_i hp
    split
    · rename_i hs
      rw [Bool.and_eq_true] at hs
      have e : mkC F35_s 0 args = [.int .i64 (intOf (nth args 0)), .list (.int .i64) (listOf (.int .i64) (nth args 1)) .no] := by kernel_rfl
      have e' : mkB F35_b 0 lent = [] := by kernel_rfl
      obtain rfl := Nat.eq_of_beq_eq_true hp
      exact (h (intOf (nth args 0)) (listOf (.int .i64) (nth args 1)) κ).symm.trans (cong2 (fun a l => (ev Try.prog cfg k).call 35 a l κ) (e.symm.trans (okC_eq hs.1).symm) (e'.symm.trans (okB_eq hs.2).symm))
    · rfl
  · rfl
theorem F35_k (gF41 : tF41) (cf : CallF) (lf : LoopF) (a0 : Int) (a1 : (List Int)) (κ : Res → Option Res) : evFn Try.prog cfg (F41_m gF41 cf) lf 35 [.int .i64 a0, .list (.int .i64) a1 .no] [] κ = F35_B gF41 a0 a1 (fun x => κ ((.int .i64 x, []) : Res)) := by
  kernel_rfl
theorem F35_ev : ∀ (k : Nat) (a0 : Int) (a1 : (List Int)) (κ : Res → Option Res), (ev Try.prog cfg k).call 35 [.int .i64 a0, .list (.int .i64) a1 .no] [] κ = F35 k a0 a1 (fun x => κ ((.int .i64 x, []) : Res)) := by
  intro k
  induction k with
  | zero => intros; rfl
  | succ k ih =>
    intro a0 a1 κ
    refine (ev_call' Try.prog cfg k 35 0 _ _ κ (by rfl)).trans ?_
    rw [← F41_d k (F41_ev k)]
    exact F35_k _ _ _ a0 a1 κ
def L24_0_B (gF33 : tF33) (gF34 : tF34) (gF35 : tF35) (gL24_0 : tL24_0) (κ : Int × Int → Option Res) (p0 : T3) (p1 : (List Int)) (p2 : T8) (p3 : Int) (p4 : Int) (K : (List Int) × Int → Option Res) : Option Res :=
  chk1 (if decide (p4 < p3) = true then
    (if (true && (decide ((0 : Int) ≤ p4) && decide (p4 < (p2.length : Int)))) = true then
     (chk5 (gF33 ((p2.getD p4.toNat ((0 : Int), (((0 : Int), ((0 : Int), ((⟨#[]⟩ : ByteArray), false))), ((⟨#[]⟩ : ByteArray), (⟨#[]⟩ : ByteArray))))).1) fun x2 =>
      chk3 (if (((p2.getD p4.toNat ((0 : Int), (((0 : Int), ((0 : Int), ((⟨#[]⟩ : ByteArray), false))), ((⟨#[]⟩ : ByteArray), (⟨#[]⟩ : ByteArray))))).1) == (1 : Int)) = true then
        (chk1 (if (((((p2.getD p4.toNat ((0 : Int), (((0 : Int), ((0 : Int), ((⟨#[]⟩ : ByteArray), false))), ((⟨#[]⟩ : ByteArray), (⟨#[]⟩ : ByteArray))))).2).1).1) == (0 : Int)) = true then
          (κ ((0 : Int), (10 : Int)))
         else
          (if (true && (decide ((0 : Int) ≤ (IntKind.wrap .i64 ((p1.length : Int) - x2))) && (decide ((IntKind.wrap .i64 ((p1.length : Int) - x2)) ≤ (p1.length : Int)) && decide ((IntKind.wrap .i64 ((p1.length : Int) - x2)) = (IntKind.wrap .i64 ((p1.length : Int) - x2)))))) = true then chk3 (if decide ((((p1.take (IntKind.wrap .i64 ((p1.length : Int) - x2)).toNat).drop (0 : Int).toNat).length + ([(((p2.getD p4.toNat ((0 : Int), (((0 : Int), ((0 : Int), ((⟨#[]⟩ : ByteArray), false))), ((⟨#[]⟩ : ByteArray), (⟨#[]⟩ : ByteArray))))).2).1).1] : List Int).length) * 8 ≤ 140737488355328) = true then chk1 (gL24_0 p0 (((p1.take (IntKind.wrap .i64 ((p1.length : Int) - x2)).toNat).drop (0 : Int).toNat) ++ ([(((p2.getD p4.toNat ((0 : Int), (((0 : Int), ((0 : Int), ((⟨#[]⟩ : ByteArray), false))), ((⟨#[]⟩ : ByteArray), (⟨#[]⟩ : ByteArray))))).2).1).1] : List Int)) p2 p3 (IntKind.wrap .i64 (p4 + (1 : Int))) K) else none) else none)))
       else
        (chk1 (if (((p2.getD p4.toNat ((0 : Int), (((0 : Int), ((0 : Int), ((⟨#[]⟩ : ByteArray), false))), ((⟨#[]⟩ : ByteArray), (⟨#[]⟩ : ByteArray))))).1) == (2 : Int)) = true then
          (chk1 (gF34 p0 ((p2.getD p4.toNat ((0 : Int), (((0 : Int), ((0 : Int), ((⟨#[]⟩ : ByteArray), false))), ((⟨#[]⟩ : ByteArray), (⟨#[]⟩ : ByteArray))))).1, (((((p2.getD p4.toNat ((0 : Int), (((0 : Int), ((0 : Int), ((⟨#[]⟩ : ByteArray), false))), ((⟨#[]⟩ : ByteArray), (⟨#[]⟩ : ByteArray))))).2).1).1, (((((p2.getD p4.toNat ((0 : Int), (((0 : Int), ((0 : Int), ((⟨#[]⟩ : ByteArray), false))), ((⟨#[]⟩ : ByteArray), (⟨#[]⟩ : ByteArray))))).2).1).2).1, (((((p2.getD p4.toNat ((0 : Int), (((0 : Int), ((0 : Int), ((⟨#[]⟩ : ByteArray), false))), ((⟨#[]⟩ : ByteArray), (⟨#[]⟩ : ByteArray))))).2).1).2).2))), (((p2.getD p4.toNat ((0 : Int), (((0 : Int), ((0 : Int), ((⟨#[]⟩ : ByteArray), false))), ((⟨#[]⟩ : ByteArray), (⟨#[]⟩ : ByteArray))))).2).2))) fun x3 =>
           chk2 (if (x3.2 != (0 : Int)) = true then
             (κ ((0 : Int), x3.2))
            else
             (chk1 (if (x3.1 == (0 : Int)) = true then
               (κ ((0 : Int), (10 : Int)))
              else
               (if (true && (decide ((0 : Int) ≤ (IntKind.wrap .i64 ((p1.length : Int) - x2))) && (decide ((IntKind.wrap .i64 ((p1.length : Int) - x2)) ≤ (p1.length : Int)) && decide ((IntKind.wrap .i64 ((p1.length : Int) - x2)) = (IntKind.wrap .i64 ((p1.length : Int) - x2)))))) = true then chk3 (if decide ((((p1.take (IntKind.wrap .i64 ((p1.length : Int) - x2)).toNat).drop (0 : Int).toNat).length + ([x3.1] : List Int).length) * 8 ≤ 140737488355328) = true then chk1 (gL24_0 p0 (((p1.take (IntKind.wrap .i64 ((p1.length : Int) - x2)).toNat).drop (0 : Int).toNat) ++ ([x3.1] : List Int)) p2 p3 (IntKind.wrap .i64 (p4 + (1 : Int))) K) else none) else none))))))
         else
          (if ((true && decide ((0 : Int) ≤ (IntKind.wrap .i64 ((p1.length : Int) - x2)))) && (decide ((IntKind.wrap .i64 ((p1.length : Int) - x2)) ≤ (p1.length : Int)) && decide ((p1.length : Int) ≤ (p1.length : Int)))) = true then
           (chk1 (gF35 ((p2.getD p4.toNat ((0 : Int), (((0 : Int), ((0 : Int), ((⟨#[]⟩ : ByteArray), false))), ((⟨#[]⟩ : ByteArray), (⟨#[]⟩ : ByteArray))))).1) ((p1.take (p1.length : Int).toNat).drop (IntKind.wrap .i64 ((p1.length : Int) - x2)).toNat) fun x4 =>
            chk2 (if (x4 == (0 : Int)) = true then
              (κ ((0 : Int), (10 : Int)))
             else
              (if (true && (decide ((0 : Int) ≤ (IntKind.wrap .i64 ((p1.length : Int) - x2))) && (decide ((IntKind.wrap .i64 ((p1.length : Int) - x2)) ≤ (p1.length : Int)) && decide ((IntKind.wrap .i64 ((p1.length : Int) - x2)) = (IntKind.wrap .i64 ((p1.length : Int) - x2)))))) = true then chk3 (if decide ((((p1.take (IntKind.wrap .i64 ((p1.length : Int) - x2)).toNat).drop (0 : Int).toNat).length + ([x4] : List Int).length) * 8 ≤ 140737488355328) = true then chk1 (gL24_0 p0 (((p1.take (IntKind.wrap .i64 ((p1.length : Int) - x2)).toNat).drop (0 : Int).toNat) ++ ([x4] : List Int)) p2 p3 (IntKind.wrap .i64 (p4 + (1 : Int))) K) else none) else none))))
          else
           (none)))))))
    else
     (none))
   else
    (K (p1, p4)))
def L24_0 : Nat → (Int × Int → Option Res) → T3 → (List Int) → T8 → Int → Int → ((List Int) × Int → Option Res) → Option Res
  | 0, _, _, _, _, _, _, _ => none
  | k + 1, κ, p0, p1, p2, p3, p4, K => L24_0_B (F33 k) (F34 k) (F35 k) (fun p0 p1 p2 p3 p4 K => L24_0 k κ p0 p1 p2 p3 p4 K) κ p0 p1 p2 p3 p4 K
def L24_0_s : Tr SC := Tr.of (nthD (.one .undef) [.one .nilp, .one (.list (.pair .str (.list .str)) .no), .one .undef, .one .undef, .one .undef, .one .undef, .one .undef, .one .undef, .one (.list (.int .i64) (.own true false)), .one .undef, .one .undef, .one .undef, .one .undef, .one .undef, .one .undef, .one .undef, .one .undef, .one (.list (.pair (.int .i64) (.pair (.pair (.int .i64) (.pair (.int .i64) (.pair .str .bool))) (.pair .str .str))) .no), .one (.int .i64), .one (.int .i64)]) 7
def L24_0_b : Tr (List SC) := Tr.of (nthD [] []) 7
def L24_0_m (g : T3 → (List Int) → T8 → Int → Int → ((List Int) × Int → Option Res) → Option Res) (lf : LoopF) : LoopF := fun p σ K => match pathEq p [true, true, true, false, true, false] with
  | true => match okSt 67 L24_0_s L24_0_b σ with
    | true => g (listOf (.pair .str (.list .str)) (Tr.val .undef (Tr.lft σ.slots))) (listOf (.int .i64) (Tr.val .undef (Tr.lft (Tr.lft (Tr.rgt σ.slots))))) (listOf (.pair (.int .i64) (.pair (.pair (.int .i64) (.pair (.int .i64) (.pair .str .bool))) (.pair .str .str))) (Tr.val .undef (Tr.lft (Tr.lft (Tr.rgt (Tr.lft σ.slots)))))) (intOf (Tr.val .undef (Tr.lft (Tr.lft (Tr.rgt (Tr.rgt σ.slots)))))) (intOf (Tr.val .undef (Tr.lft (Tr.rgt (Tr.lft (Tr.lft σ.slots)))))) (fun v => K (.exit 0) ⟨67, Tr.of (nthD .undef [.nilp, .list (.pair .str (.list .str)) (listOf (.pair .str (.list .str)) (Tr.val .undef (Tr.lft σ.slots))) .no, .undef, .undef, .undef, .undef, .undef, .undef, .list (.int .i64) v.1 (.own true false), .undef, .undef, .undef, .undef, .undef, .undef, .undef, .undef, .list (.pair (.int .i64) (.pair (.pair (.int .i64) (.pair (.int .i64) (.pair .str .bool))) (.pair .str .str))) (listOf (.pair (.int .i64) (.pair (.pair (.int .i64) (.pair (.int .i64) (.pair .str .bool))) (.pair .str .str))) (Tr.val .undef (Tr.lft (Tr.lft (Tr.rgt (Tr.lft σ.slots)))))) .no, .int .i64 (intOf (Tr.val .undef (Tr.lft (Tr.lft (Tr.rgt (Tr.rgt σ.slots)))))), .int .i64 v.2]) 7, Tr.of (nthD [] []) 7⟩)
    | false => lf p σ K
  | false => lf p σ K
theorem L24_0_d (k : Nat) (κ : Res → Option Res) (h : ∀ (p0 : T3) (p1 : (List Int)) (p2 : T8) (p3 : Int) (p4 : Int) (K : Cont), (ev Try.prog cfg k).loop 24 0 κ [true, true, true, false, true, false] ⟨67, Tr.of (nthD .undef [.nilp, .list (.pair .str (.list .str)) p0 .no, .undef, .undef, .undef, .undef, .undef, .undef, .list (.int .i64) p1 (.own true false), .undef, .undef, .undef, .undef, .undef, .undef, .undef, .undef, .list (.pair (.int .i64) (.pair (.pair (.int .i64) (.pair (.int .i64) (.pair .str .bool))) (.pair .str .str))) p2 .no, .int .i64 p3, .int .i64 p4]) 7, Tr.of (nthD [] []) 7⟩ K = L24_0 k (fun x => κ ((.tup [.int .i64 x.1, .int .i64 x.2], []) : Res)) p0 p1 p2 p3 p4 (fun v => K (.exit 0) ⟨67, Tr.of (nthD .undef [.nilp, .list (.pair .str (.list .str)) p0 .no, .undef, .undef, .undef, .undef, .undef, .undef, .list (.int .i64) v.1 (.own true false), .undef, .undef, .undef, .undef, .undef, .undef, .undef, .undef, .list (.pair (.int .i64) (.pair (.pair (.int .i64) (.pair (.int .i64) (.pair .str .bool))) (.pair .str .str))) p2 .no, .int .i64 p3, .int .i64 v.2]) 7, Tr.of (nthD [] []) 7⟩)) : L24_0_m (L24_0 k (fun x => κ ((.tup [.int .i64 x.1, .int .i64 x.2], []) : Res))) ((ev Try.prog cfg k).loop 24 0 κ) = (ev Try.prog cfg k).loop 24 0 κ := by
  funext p σ K
  unfold L24_0_m
  split
  · rename_i hp
    split
    · rename_i hs
      have e : mkSt 67 L24_0_s L24_0_b σ = ⟨67, Tr.of (nthD .undef [.nilp, .list (.pair .str (.list .str)) (listOf (.pair .str (.list .str)) (Tr.val .undef (Tr.lft σ.slots))) .no, .undef, .undef, .undef, .undef, .undef, .undef, .list (.int .i64) (listOf (.int .i64) (Tr.val .undef (Tr.lft (Tr.lft (Tr.rgt σ.slots))))) (.own true false), .undef, .undef, .undef, .undef, .undef, .undef, .undef, .undef, .list (.pair (.int .i64) (.pair (.pair (.int .i64) (.pair (.int .i64) (.pair .str .bool))) (.pair .str .str))) (listOf (.pair (.int .i64) (.pair (.pair (.int .i64) (.pair (.int .i64) (.pair .str .bool))) (.pair .str .str))) (Tr.val .undef (Tr.lft (Tr.lft (Tr.rgt (Tr.lft σ.slots)))))) .no, .int .i64 (intOf (Tr.val .undef (Tr.lft (Tr.lft (Tr.rgt (Tr.rgt σ.slots)))))), .int .i64 (intOf (Tr.val .undef (Tr.lft (Tr.rgt (Tr.lft (Tr.lft σ.slots))))))]) 7, Tr.of (nthD [] []) 7⟩ := by kernel_rfl
      rw [pathEq_eq hp]
      exact (h (listOf (.pair .str (.list .str)) (Tr.val .undef (Tr.lft σ.slots))) (listOf (.int .i64) (Tr.val .undef (Tr.lft (Tr.lft (Tr.rgt σ.slots))))) (listOf (.pair (.int .i64) (.pair (.pair (.int .i64) (.pair (.int .i64) (.pair .str .bool))) (.pair .str .str))) (Tr.val .undef (Tr.lft (Tr.lft (Tr.rgt (Tr.lft σ.slots)))))) (intOf (Tr.val .undef (Tr.lft (Tr.lft (Tr.rgt (Tr.rgt σ.slots)))))) (intOf (Tr.val .undef (Tr.lft (Tr.rgt (Tr.lft (Tr.lft σ.slots)))))) K).symm.trans (congrArg (fun s => (ev Try.prog cfg k).loop 24 0 κ [true, true, true, false, true, false] s K) (e.symm.trans (okSt_eq hs).symm))
    · rfl
  · rfl
theorem L24_0_k (gF33 : tF33) (gF34 : tF34) (gF35 : tF35) (gL24_0 : tL24_0) (cf : CallF) (lf : LoopF) (κ : Res → Option Res) (p0 : T3) (p1 : (List Int)) (p2 : T8) (p3 : Int) (p4 : Int) (K : Cont) : evLp Try.prog cfg (F33_m gF33 (F34_m gF34 (F35_m gF35 cf))) (L24_0_m gL24_0 lf) 24 0 κ [true, true, true, false, true, false] ⟨67, Tr.of (nthD .undef [.nilp, .list (.pair .str (.list .str)) p0 .no, .undef, .undef, .undef, .undef, .undef, .undef, .list (.int .i64) p1 (.own true false), .undef, .undef, .undef, .undef, .undef, .undef, .undef, .undef, .list (.pair (.int .i64) (.pair (.pair (.int .i64) (.pair (.int .i64) (.pair .str .bool))) (.pair .str .str))) p2 .no, .int .i64 p3, .int .i64 p4]) 7, Tr.of (nthD [] []) 7⟩ K = L24_0_B gF33 gF34 gF35 gL24_0 (fun x => κ ((.tup [.int .i64 x.1, .int .i64 x.2], []) : Res)) p0 p1 p2 p3 p4 (fun v => K (.exit 0) ⟨67, Tr.of (nthD .undef [.nilp, .list (.pair .str (.list .str)) p0 .no, .undef, .undef, .undef, .undef, .undef, .undef, .list (.int .i64) v.1 (.own true false), .undef, .undef, .undef, .undef, .undef, .undef, .undef, .undef, .list (.pair (.int .i64) (.pair (.pair (.int .i64) (.pair (.int .i64) (.pair .str .bool))) (.pair .str .str))) p2 .no, .int .i64 p3, .int .i64 v.2]) 7, Tr.of (nthD [] []) 7⟩) := by
  kernel_rfl
theorem L24_0_ev : ∀ (k : Nat) (κ : Res → Option Res) (p0 : T3) (p1 : (List Int)) (p2 : T8) (p3 : Int) (p4 : Int) (K : Cont), (ev Try.prog cfg k).loop 24 0 κ [true, true, true, false, true, false] ⟨67, Tr.of (nthD .undef [.nilp, .list (.pair .str (.list .str)) p0 .no, .undef, .undef, .undef, .undef, .undef, .undef, .list (.int .i64) p1 (.own true false), .undef, .undef, .undef, .undef, .undef, .undef, .undef, .undef, .list (.pair (.int .i64) (.pair (.pair (.int .i64) (.pair (.int .i64) (.pair .str .bool))) (.pair .str .str))) p2 .no, .int .i64 p3, .int .i64 p4]) 7, Tr.of (nthD [] []) 7⟩ K = L24_0 k (fun x => κ ((.tup [.int .i64 x.1, .int .i64 x.2], []) : Res)) p0 p1 p2 p3 p4 (fun v => K (.exit 0) ⟨67, Tr.of (nthD .undef [.nilp, .list (.pair .str (.list .str)) p0 .no, .undef, .undef, .undef, .undef, .undef, .undef, .list (.int .i64) v.1 (.own true false), .undef, .undef, .undef, .undef, .undef, .undef, .undef, .undef, .list (.pair (.int .i64) (.pair (.pair (.int .i64) (.pair (.int .i64) (.pair .str .bool))) (.pair .str .str))) p2 .no, .int .i64 p3, .int .i64 v.2]) 7, Tr.of (nthD [] []) 7⟩) := by
  intro k κ
  induction k with
  | zero => intro p0 p1 p2 p3 p4 K; rfl
  | succ k ih =>
    intro p0 p1 p2 p3 p4 K
    rw [ev_loop, ← F33_d k (F33_ev k), ← F34_d k (F34_ev k), ← F35_d k (F35_ev k), ← L24_0_d k κ ih]
    exact L24_0_k _ _ _ _ _ _ κ p0 p1 p2 p3 p4 K
def F24_B (gF32 : tF32) (gF33 : tF33) (gF34 : tF34) (gF35 : tF35) (gL24_0 : tL24_0) (a1 : T3) (a2 : T8) (κ : Int × Int → Option Res) : Option Res :=
  chk1 (gF32 a2 fun x1 =>
   chk1 (if (!x1) = true then
     (κ ((0 : Int), (1 : Int)))
    else
     (chk1 (gL24_0 a1 ([] : List Int) a2 (a2.length : Int) (0 : Int) fun v5 =>
      if (true && (true && decide ((0 : Int) < (v5.1.length : Int)))) = true then κ ((v5.1.getD (0 : Int).toNat (0 : Int)), (0 : Int)) else none))))
/-- lamplighter/typing.Kind -/
def F24 : Nat → T3 → T8 → (Int × Int → Option Res) → Option Res
  | 0, _, _, _ => none
  | k + 1, a1, a2, κ => F24_B (F32 k) (F33 k) (F34 k) (F35 k) (L24_0 k κ) a1 a2 κ
def F24_s : List SC := [.one .nilp, .one (.list (.pair .str (.list .str)) .no), .one (.list (.pair (.int .i64) (.pair (.pair (.int .i64) (.pair (.int .i64) (.pair .str .bool))) (.pair .str .str))) .no)]
def F24_b : List (List SC) := []
def F24_m (g : T3 → T8 → (Int × Int → Option Res) → Option Res) (cf : CallF) : CallF := fun f args lent κ => match Nat.beq f 24 with
  | true => match okC F24_s args && okB F24_b lent with
    | true => g (listOf (.pair .str (.list .str)) (nth args 1)) (listOf (.pair (.int .i64) (.pair (.pair (.int .i64) (.pair (.int .i64) (.pair .str .bool))) (.pair .str .str))) (nth args 2)) (fun x => κ ((.tup [.int .i64 x.1, .int .i64 x.2], []) : Res))
    | false => cf f args lent κ
  | false => cf f args lent κ
theorem F24_d (k : Nat) (h : ∀ (a1 : T3) (a2 : T8) (κ : Res → Option Res), (ev Try.prog cfg k).call 24 [.nilp, .list (.pair .str (.list .str)) a1 .no, .list (.pair (.int .i64) (.pair (.pair (.int .i64) (.pair (.int .i64) (.pair .str .bool))) (.pair .str .str))) a2 .no] [] κ = F24 k a1 a2 (fun x => κ ((.tup [.int .i64 x.1, .int .i64 x.2], []) : Res))) : F24_m (F24 k) (ev Try.prog cfg k).call = (ev Try.prog cfg k).call := by
  funext f args lent κ
  unfold F24_m
  split
  · rename_i hp
    split
    · rename_i hs
      rw [Bool.and_eq_true] at hs
      have e : mkC F24_s 0 args = [.nilp, .list (.pair .str (.list .str)) (listOf (.pair .str (.list .str)) (nth args 1)) .no, .list (.pair (.int .i64) (.pair (.pair (.int .i64) (.pair (.int .i64) (.pair .str .bool))) (.pair .str .str))) (listOf (.pair (.int .i64) (.pair (.pair (.int .i64) (.pair (.int .i64) (.pair .str .bool))) (.pair .str .str))) (nth args 2)) .no] := by kernel_rfl
      have e' : mkB F24_b 0 lent = [] := by kernel_rfl
      obtain rfl := Nat.eq_of_beq_eq_true hp
      exact (h (listOf (.pair .str (.list .str)) (nth args 1)) (listOf (.pair (.int .i64) (.pair (.pair (.int .i64) (.pair (.int .i64) (.pair .str .bool))) (.pair .str .str))) (nth args 2)) κ).symm.trans (cong2 (fun a l => (ev Try.prog cfg k).call 24 a l κ) (e.symm.trans (okC_eq hs.1).symm) (e'.symm.trans (okB_eq hs.2).symm))
    · rfl
  · rfl
theorem F24_k (gF32 : tF32) (gF33 : tF33) (gF34 : tF34) (gF35 : tF35) (gL24_0 : tL24_0) (cf : CallF) (lf : LoopF) (a1 : T3) (a2 : T8) (κ : Res → Option Res) : evFn Try.prog cfg (F32_m gF32 (F33_m gF33 (F34_m gF34 (F35_m gF35 cf)))) (L24_0_m gL24_0 lf) 24 [.nilp, .list (.pair .str (.list .str)) a1 .no, .list (.pair (.int .i64) (.pair (.pair (.int .i64) (.pair (.int .i64) (.pair .str .bool))) (.pair .str .str))) a2 .no] [] κ = F24_B gF32 gF33 gF34 gF35 gL24_0 a1 a2 (fun x => κ ((.tup [.int .i64 x.1, .int .i64 x.2], []) : Res)) := by
  kernel_rfl
theorem F24_ev : ∀ (k : Nat) (a1 : T3) (a2 : T8) (κ : Res → Option Res), (ev Try.prog cfg k).call 24 [.nilp, .list (.pair .str (.list .str)) a1 .no, .list (.pair (.int .i64) (.pair (.pair (.int .i64) (.pair (.int .i64) (.pair .str .bool))) (.pair .str .str))) a2 .no] [] κ = F24 k a1 a2 (fun x => κ ((.tup [.int .i64 x.1, .int .i64 x.2], []) : Res)) := by
  intro k
  induction k with
  | zero => intros; rfl
  | succ k ih =>
    intro a1 a2 κ
    refine (ev_call' Try.prog cfg k 24 0 _ _ κ (by rfl)).trans ?_
    rw [← F32_d k (F32_ev k), ← F33_d k (F33_ev k), ← F34_d k (F34_ev k), ← F35_d k (F35_ev k), ← L24_0_d k κ (L24_0_ev k κ)]
    exact F24_k _ _ _ _ _ _ _ a1 a2 κ
end Go.Proofs.Ytfdgjpeanffknaa.ChM
