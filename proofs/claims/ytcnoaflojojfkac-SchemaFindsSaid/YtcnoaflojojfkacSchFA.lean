/- The functions that 'lamplighter/lamplighterlaw03.SchemaFinds' reaches, over lists and numbers, and that the machine of values comes to them (printed by wip/vm/gen.py). No condition. -/
import Derived.Test.YtcnoaflojojfkacVmShape
import Derived.Test.YtcnoaflojojfkacProg
import Derived.KernelRfl
namespace Go.Proofs.Ytcnoaflojojfkac.SchF
open Go Go.Proofs.Ytcnoaflojojfkac.Vm
set_option linter.unusedVariables false
set_option maxRecDepth 100000
def tab : List Row := [
  ⟨3, false, [.int .i64], (.int .i64), 8, .flat⟩,
  ⟨4, false, [.bool], .bool, 1, .flat⟩,
  ⟨5, false, [.int .u8], (.int .u8), 1, .flat⟩,
  ⟨9, false, [.str], .str, 16, .flat⟩,
  ⟨22, false, [.list .str], (.list .str), 24, .slice 9⟩,
  ⟨26, false, [.list (.pair .str (.list (.pair .str (.int .i64))))], (.list (.pair .str (.list (.pair .str (.int .i64))))), 24, .slice 37⟩,
  ⟨28, false, [.ptr], .unit, 8, .flat⟩,
  ⟨29, false, [.int .i64], (.int .i64), 8, .flat⟩,
  ⟨35, false, [.list (.pair .str (.int .i64))], (.list (.pair .str (.int .i64))), 24, .slice 43⟩,
  ⟨37, true, [.str, .list (.pair .str (.int .i64))], (.pair .str (.list (.pair .str (.int .i64)))), 40, .struct [(0, 9), (1, 35)]⟩,
  ⟨43, true, [.str, .int .i64], (.pair .str (.int .i64)), 24, .struct [(0, 9), (1, 3)]⟩,
  ⟨128, true, [.list (.pair .str (.list (.pair .str (.int .i64))))], (.list (.pair .str (.list (.pair .str (.int .i64))))), 24, .struct [(0, 26)]⟩,
  ⟨152, false, [.fn], .unit, 8, .flat⟩]
def pathEq' : List Bool → List Bool → Bool
  | [], [] => true
  | true :: p, true :: q => pathEq' p q
  | false :: p, false :: q => pathEq' p q
  | _, _ => false
def cfg : Cfg := ⟨tab, fun f => 2, fun f => if Nat.beq f 81 = true then 2 else 0, fun f => if Nat.beq f 4 = true then [4, 5, 6, 7, 8, 9, 11, 12, 13, 14, 15, 16, 18, 22, 58, 108, 150, 163] else if Nat.beq f 15 = true then [0, 1, 2, 3, 4, 5, 10] else if Nat.beq f 16 = true then [2, 3, 4, 5] else if Nat.beq f 17 = true then [2, 3, 4, 5, 7] else if Nat.beq f 18 = true then [4, 5, 6, 7, 9, 122, 127, 131] else if Nat.beq f 19 = true then [2, 3, 4, 8, 30, 42, 54] else if Nat.beq f 20 = true then [2, 3, 4, 6, 7] else if Nat.beq f 21 = true then [2, 3, 4, 10, 22] else if Nat.beq f 22 = true then [2] else if Nat.beq f 23 = true then [5] else if Nat.beq f 24 = true then [6, 7, 9, 10, 12, 30, 32] else if Nat.beq f 78 = true then [0] else if Nat.beq f 79 = true then [2] else if Nat.beq f 80 = true then [2, 3] else if Nat.beq f 108 = true then [4] else if Nat.beq f 109 = true then [3] else if Nat.beq f 121 = true then [4, 5, 17] else [], fun f => if Nat.beq f 4 = true then [4, 5, 6, 7, 8, 9, 11, 12, 13, 14, 15, 16, 18] else if Nat.beq f 15 = true then [0, 1, 2, 3, 4] else if Nat.beq f 16 = true then [2, 3, 4, 5] else if Nat.beq f 17 = true then [2, 3, 4, 5, 7] else if Nat.beq f 18 = true then [4, 5, 6, 7, 9] else if Nat.beq f 19 = true then [2, 3, 4, 8] else if Nat.beq f 20 = true then [2, 3, 4, 6, 7] else if Nat.beq f 21 = true then [2, 3, 4] else if Nat.beq f 22 = true then [2] else if Nat.beq f 23 = true then [5] else if Nat.beq f 24 = true then [6, 7, 10] else if Nat.beq f 78 = true then [0] else if Nat.beq f 79 = true then [2] else if Nat.beq f 80 = true then [2, 3] else if Nat.beq f 108 = true then [4] else if Nat.beq f 109 = true then [3] else if Nat.beq f 121 = true then [4, 5] else [], fun f p => if Nat.beq f 18 = true then (if pathEq' p [true, true, true, false, true, false] = true then [2, 3, 4, 8, 9, 10, 11, 12, 13, 14, 15, 16, 17, 18, 19, 20, 21, 22, 23, 24, 25, 26, 27, 28, 29, 30, 31, 32, 33, 34, 35, 36, 37, 38, 39, 40, 41, 42, 43, 44, 45, 46, 47, 48, 49, 50, 51, 52, 53, 54, 55, 56, 57, 58, 59, 60, 61, 62, 63, 64, 65, 66, 67, 68, 69, 70, 71, 72, 73, 74, 75, 76, 77, 78, 79, 80, 81, 82, 83, 84, 85, 86, 87, 88, 89, 90, 91, 92, 93, 94, 95, 96, 97, 98, 99, 100, 101, 102, 103, 104, 105, 106, 107, 108, 109, 110, 111, 112, 113, 114, 115, 116, 117, 118, 119, 120, 121, 122, 123, 124, 125, 126, 127, 128, 129, 130, 131] else if pathEq' p [true, true, true, false, true, false, false, true, false, false, true, true, true, false, true, false] = true then [2, 3, 4, 10, 11, 12, 13, 14, 15, 16, 17, 18, 19, 20, 21, 22, 23, 24, 25, 26, 27, 28, 29, 30, 31, 32, 33, 34, 35, 36, 37, 38, 39, 40, 41, 42, 43, 44, 45, 46, 47, 48, 49, 50, 51, 52, 53, 54, 55, 56, 57, 58, 59, 60, 61, 62, 63, 64, 65, 66, 67, 68, 69, 70, 71, 72, 73, 74, 75, 76, 77, 78, 79, 80, 81, 82, 83, 84, 85, 86, 87, 88, 89, 90, 91, 92, 93, 94, 95, 96, 97, 98, 99, 100, 101, 102, 103, 104, 105, 106, 107, 108, 109, 110, 111, 112, 113, 114, 115, 116, 117, 118, 119, 120, 121, 122, 123, 124, 125, 126, 127, 128, 129, 130, 131] else []) else if Nat.beq f 16 = true then (if pathEq' p [true, true, false, true, false] = true then [1, 2, 3, 4, 5, 6, 7, 8, 9, 10, 11, 12, 13, 14, 15, 16, 17, 18, 19, 22, 23, 24, 25, 26, 27, 28, 29, 30, 31, 32, 33, 34, 35, 36, 37, 38, 39, 40, 41, 42, 43, 44, 45, 46, 47, 48, 49, 50, 51, 52, 53, 54, 55, 56, 57] else if pathEq' p [true, true, true, false, true, false] = true then [1, 2, 3, 4, 5, 6, 7, 8, 9, 10, 11, 12, 13, 14, 15, 16, 17, 18, 19, 20, 21, 22, 23, 24, 25, 26, 27, 28, 29, 30, 31, 32, 33, 34, 35, 36, 37, 38, 39, 40, 41, 44, 45, 46, 47, 48, 49, 50, 51, 52, 53, 54, 55, 56, 57] else []) else if Nat.beq f 121 = true then (if pathEq' p [true, false, true, false] = true then [2, 3, 4, 5, 6, 9, 10, 11, 12, 13, 14, 15, 16, 17, 18] else []) else if Nat.beq f 80 = true then (if pathEq' p [true, true, false, true, false] = true then [1, 2, 3, 4, 5, 6, 7, 11, 12, 13, 14, 15, 16, 17, 18, 19, 20, 21, 22, 23, 24, 25, 26, 27, 28, 29, 30, 31, 32, 33, 34] else []) else if Nat.beq f 23 = true then (if pathEq' p [true, true, false, true, false] = true then [0, 2, 3, 5, 6, 7, 8, 9, 10, 11, 12, 13, 17, 18, 19, 20, 21, 22, 23, 24, 25, 26, 27, 28, 29, 30, 31] else []) else if Nat.beq f 19 = true then (if pathEq' p [true, true, true, false, true, false] = true then [0, 1, 2, 3, 5, 6, 7, 8, 9, 10, 11, 12, 17, 18, 19, 20, 21, 22, 23, 24, 25, 26, 27, 28, 29, 30, 31, 32, 33, 34, 35, 36, 37, 38, 39, 40, 41, 42, 43, 44, 45, 46, 47, 48, 49, 50, 51, 52, 53, 54] else []) else if Nat.beq f 17 = true then (if pathEq' p [true, true, false, true, false] = true then [1, 2, 4, 5, 6, 7, 8, 9, 10, 11, 12, 13, 14, 15, 16, 17, 18, 19, 20, 21, 22, 23, 24, 25, 26, 27, 28, 29, 30, 31, 32, 33, 34, 35, 36, 37, 38, 39, 40, 41, 42, 43, 44, 45, 46, 47, 48, 49, 50, 51, 52, 53, 54, 55, 56, 57, 58, 59, 60, 61, 62, 63, 64, 65] else if pathEq' p [true, true, true, false, true, false] = true then [1, 2, 3, 4, 5, 6, 7, 8, 9, 10, 11, 12, 13, 14, 15, 16, 17, 18, 19, 20, 21, 22, 23, 24, 25, 26, 27, 28, 29, 30, 31, 32, 33, 34, 35, 36, 37, 38, 39, 40, 41, 42, 43, 44, 45, 46, 47, 48, 49, 50, 51, 52, 53, 54, 55, 59, 60, 61, 62, 63, 64, 65] else []) else if Nat.beq f 20 = true then (if pathEq' p [true, false, true, false] = true then [1, 2, 4, 5, 6, 7, 8, 9, 10, 11, 12, 13, 14, 15, 16, 17, 18, 19, 20, 21, 22, 23, 24, 25, 26, 27, 28, 29, 30, 31, 32, 33, 34, 35, 36, 37, 38, 39, 40, 41, 42, 43, 44, 45, 46, 47, 48, 49, 50, 51, 52, 53, 54, 55, 56, 57, 58, 59, 60, 61, 62, 63, 64, 65, 66, 67, 68, 69, 70, 71, 72, 73, 74, 75, 76, 77, 78, 79, 80, 81, 82, 83, 84, 85] else if pathEq' p [true, false, true, false, false, true, false, false, true, false, true, false] = true then [1, 2, 5, 6, 7, 8, 9, 10, 11, 12, 13, 14, 15, 16, 17, 18, 19, 20, 21, 22, 23, 24, 25, 26, 27, 28, 29, 30, 31, 32, 33, 34, 35, 36, 37, 38, 39, 40, 41, 42, 43, 44, 45, 46, 47, 48, 49, 50, 51, 52, 53, 54, 55, 56, 57, 58, 59, 60, 61, 62, 63, 64, 65, 66, 67, 68, 69, 70, 71, 72, 73, 74, 75, 76, 77, 78, 79, 80, 81, 82, 83, 84, 85] else if pathEq' p [true, false, true, false, false, true, false, false, true, false, true, false, false, true, false, false, true, true, true, false] = true then [1, 2, 7, 8, 9, 10, 11, 12, 13, 14, 15, 16, 17, 18, 19, 20, 21, 22, 23, 24, 25, 26, 27, 28, 29, 30, 31, 32, 33, 34, 35, 36, 37, 38, 39, 40, 41, 42, 43, 44, 45, 46, 47, 48, 49, 50, 51, 52, 53, 54, 55, 56, 57, 58, 59, 60, 61, 62, 63, 64, 65, 66, 67, 68, 69, 70, 71, 72, 73, 74, 75, 76, 77, 78, 79, 80, 81, 82, 83, 84, 85] else if pathEq' p [true, false, true, false, false, true, false, false, true, true, true, false] = true then [1, 2, 4, 5, 6, 8, 9, 10, 11, 12, 13, 14, 15, 16, 17, 18, 19, 20, 21, 22, 23, 24, 25, 26, 27, 28, 29, 30, 31, 32, 33, 34, 35, 36, 37, 38, 39, 40, 41, 42, 43, 44, 45, 46, 47, 48, 49, 50, 51, 52, 53, 54, 55, 56, 57, 58, 59, 60, 61, 62, 63, 64, 65, 66, 67, 68, 69, 70, 71, 72, 73, 74, 75, 76, 77, 78, 79, 80, 81, 82, 83, 84, 85] else []) else if Nat.beq f 24 = true then (if pathEq' p [true, true, false, true, false] = true then [0, 1, 3, 4, 5, 6, 7, 8, 9, 10, 11, 12, 13, 14, 15, 16, 17, 18, 22, 23, 24, 25, 26, 27, 28, 29, 30, 31, 32, 33] else []) else if Nat.beq f 21 = true then (if pathEq' p [true, true, false, true, false] = true then [1, 2, 4, 5, 8, 9, 10, 11, 12, 13, 14, 15, 16, 17, 18, 19, 20, 21, 22] else []) else if Nat.beq f 4 = true then (if pathEq' p [true, true, true, true, true, true, true, false, true, false] = true then [0, 1, 2, 3, 4, 7, 10, 11, 12, 13, 14, 15, 16, 17, 18, 19, 20, 21, 22, 23, 25, 26, 27, 28, 29, 30, 31, 32, 33, 34, 35, 36, 37, 38, 39, 40, 41, 42, 43, 44, 45, 46, 47, 48, 49, 50, 51, 52, 53, 54, 55, 56, 57, 58, 59, 60, 61, 62, 63, 64, 65, 66, 67, 68, 69, 70, 71, 72, 73, 74, 75, 76, 77, 78, 79, 80, 81, 82, 83, 84, 85, 86, 87, 88, 89, 90, 91, 92, 93, 94, 95, 96, 97, 98, 99, 100, 101, 102, 103, 104, 105, 106, 107, 108, 109, 110, 111, 112, 113, 114, 115, 116, 117, 118, 119, 120, 121, 122, 123, 124, 125, 126, 127, 128, 129, 130, 131, 132, 133, 134, 135, 136, 137, 138, 139, 140, 141, 142, 143, 144, 145, 146, 147, 148, 149, 150, 151, 152, 153, 154, 155, 156, 157, 158, 159, 160, 161, 162, 163, 164, 165, 166, 167, 168, 169, 170, 171, 172] else if pathEq' p [true, true, true, true, true, true, true, false, true, false, false, true, false, false, true, true, false, true, false] = true then [0, 1, 2, 3, 4, 7, 11, 13, 14, 15, 16, 17, 18, 19, 20, 21, 22, 23, 25, 26, 27, 28, 29, 30, 31, 32, 33, 34, 35, 36, 37, 38, 39, 40, 41, 42, 43, 44, 45, 46, 47, 48, 49, 50, 51, 52, 53, 54, 55, 56, 57, 58, 59, 60, 61, 62, 63, 64, 65, 66, 67, 68, 69, 70, 71, 72, 73, 74, 75, 76, 77, 78, 79, 80, 81, 82, 83, 84, 85, 86, 87, 88, 89, 90, 91, 92, 93, 94, 95, 96, 97, 98, 99, 100, 101, 102, 103, 104, 105, 106, 107, 108, 109, 110, 111, 112, 113, 114, 115, 116, 117, 118, 119, 120, 121, 122, 123, 124, 125, 126, 127, 128, 129, 130, 131, 132, 133, 134, 135, 136, 137, 138, 139, 140, 141, 142, 143, 144, 145, 146, 147, 148, 149, 150, 151, 152, 153, 154, 155, 156, 157, 158, 159, 160, 161, 162, 163, 164, 165, 166, 167, 168, 169, 170, 171, 172] else []) else [], fun f p => if Nat.beq f 17 = true then (if pathEq' p [true, true, true, false, true, false] = true then [56] else []) else [], fun f p => []⟩
def L18_1 : Nat → ((List (ByteArray × (List (ByteArray × Int)))) → Option Res) → (List (ByteArray × (List (ByteArray × Int)))) → Int → (List (ByteArray × (List (ByteArray × Int)))) → (List ByteArray) → Int → Int → ByteArray → (List (ByteArray × Int)) → (Int × (List (ByteArray × Int)) → Option Res) → Option Res
  | 0, _, _, _, _, _, _, _, _, _, _ => none
  | k + 1, κ, p0, p1, p2, p3, p4, p5, p6, p7, K =>
  if (decide ((0 : Int) ≤ p4) && decide (p4 < (p0.length : Int))) = true then
   (if decide (p5 < (((p0.getD p4.toNat ((⟨#[]⟩ : ByteArray), ([] : List (ByteArray × Int)))).2).length : Int)) = true then
    (if decide (p5 < (4 : Int)) = true then
     (if (decide ((0 : Int) ≤ p5) && decide (p5 < (p3.length : Int))) = true then
      (if decide (p5.toNat < p3.length) = true then
       (if (decide ((0 : Int) ≤ p4) && decide (p4 < (p0.length : Int))) = true then
        (if (decide ((0 : Int) ≤ p5) && decide (p5 < (((p0.getD p4.toNat ((⟨#[]⟩ : ByteArray), ([] : List (ByteArray × Int)))).2).length : Int))) = true then
         (if ((bits .and .i64 p1 (15 : Int)) == (2 : Int)) = true then
          (if (decide ((0 : Int) ≤ p4) && decide (p4 < (p0.length : Int))) = true then
           (if (decide ((0 : Int) ≤ p5) && decide (p5 < (((p0.getD p4.toNat ((⟨#[]⟩ : ByteArray), ([] : List (ByteArray × Int)))).2).length : Int))) = true then
            (if ((bits .and .i64 p1 (15 : Int)) == (3 : Int)) = true then
             (if (decide ((0 : Int) ≤ p4) && decide (p4 < (p0.length : Int))) = true then if (decide ((0 : Int) ≤ p5) && decide (p5 < (((p0.getD p4.toNat ((⟨#[]⟩ : ByteArray), ([] : List (ByteArray × Int)))).2).length : Int))) = true then if (decide ((0 : Int) ≤ (Int.tmod (((((p0.getD p4.toNat ((⟨#[]⟩ : ByteArray), ([] : List (ByteArray × Int)))).2).getD p5.toNat ((⟨#[]⟩ : ByteArray), (0 : Int))).1).size : Int) (5 : Int))) && decide ((Int.tmod (((((p0.getD p4.toNat ((⟨#[]⟩ : ByteArray), ([] : List (ByteArray × Int)))).2).getD p5.toNat ((⟨#[]⟩ : ByteArray), (0 : Int))).1).size : Int) (5 : Int)) < (p3.length : Int))) = true then if decide ((Int.tmod (((((p0.getD p4.toNat ((⟨#[]⟩ : ByteArray), ([] : List (ByteArray × Int)))).2).getD p5.toNat ((⟨#[]⟩ : ByteArray), (0 : Int))).1).size : Int) (5 : Int)).toNat < p3.length) = true then if decide ((p7.length + ([((p3.getD ((Int.tmod (((((p0.getD p4.toNat ((⟨#[]⟩ : ByteArray), ([] : List (ByteArray × Int)))).2).getD p5.toNat ((⟨#[]⟩ : ByteArray), (0 : Int))).1).size : Int) (5 : Int)).toNat) (⟨#[]⟩ : ByteArray)), (((p0.getD p4.toNat ((⟨#[]⟩ : ByteArray), ([] : List (ByteArray × Int)))).2).getD p5.toNat ((⟨#[]⟩ : ByteArray), (0 : Int))).2)] : List (ByteArray × Int)).length) * 24 ≤ 140737488355328) = true then L18_1 k κ p0 p1 p2 p3 p4 (IntKind.wrap .i64 (p5 + (1 : Int))) p6 (p7 ++ ([((p3.getD ((Int.tmod (((((p0.getD p4.toNat ((⟨#[]⟩ : ByteArray), ([] : List (ByteArray × Int)))).2).getD p5.toNat ((⟨#[]⟩ : ByteArray), (0 : Int))).1).size : Int) (5 : Int)).toNat) (⟨#[]⟩ : ByteArray)), (((p0.getD p4.toNat ((⟨#[]⟩ : ByteArray), ([] : List (ByteArray × Int)))).2).getD p5.toNat ((⟨#[]⟩ : ByteArray), (0 : Int))).2)] : List (ByteArray × Int))) K else none else none else none else none else none)
            else
             (if decide ((p7.length + ([((p3.getD p5.toNat (⟨#[]⟩ : ByteArray)), (((p0.getD p4.toNat ((⟨#[]⟩ : ByteArray), ([] : List (ByteArray × Int)))).2).getD p5.toNat ((⟨#[]⟩ : ByteArray), (0 : Int))).2)] : List (ByteArray × Int)).length) * 24 ≤ 140737488355328) = true then L18_1 k κ p0 p1 p2 p3 p4 (IntKind.wrap .i64 (p5 + (1 : Int))) p6 (p7 ++ ([((p3.getD p5.toNat (⟨#[]⟩ : ByteArray)), (((p0.getD p4.toNat ((⟨#[]⟩ : ByteArray), ([] : List (ByteArray × Int)))).2).getD p5.toNat ((⟨#[]⟩ : ByteArray), (0 : Int))).2)] : List (ByteArray × Int))) K else none))
           else
            (none))
          else
           (none))
         else
          (if ((bits .and .i64 p1 (15 : Int)) == (3 : Int)) = true then
           (if (decide ((0 : Int) ≤ p4) && decide (p4 < (p0.length : Int))) = true then if (decide ((0 : Int) ≤ p5) && decide (p5 < (((p0.getD p4.toNat ((⟨#[]⟩ : ByteArray), ([] : List (ByteArray × Int)))).2).length : Int))) = true then if (decide ((0 : Int) ≤ (Int.tmod (((((p0.getD p4.toNat ((⟨#[]⟩ : ByteArray), ([] : List (ByteArray × Int)))).2).getD p5.toNat ((⟨#[]⟩ : ByteArray), (0 : Int))).1).size : Int) (5 : Int))) && decide ((Int.tmod (((((p0.getD p4.toNat ((⟨#[]⟩ : ByteArray), ([] : List (ByteArray × Int)))).2).getD p5.toNat ((⟨#[]⟩ : ByteArray), (0 : Int))).1).size : Int) (5 : Int)) < (p3.length : Int))) = true then if decide ((Int.tmod (((((p0.getD p4.toNat ((⟨#[]⟩ : ByteArray), ([] : List (ByteArray × Int)))).2).getD p5.toNat ((⟨#[]⟩ : ByteArray), (0 : Int))).1).size : Int) (5 : Int)).toNat < p3.length) = true then if decide ((p7.length + ([((p3.getD ((Int.tmod (((((p0.getD p4.toNat ((⟨#[]⟩ : ByteArray), ([] : List (ByteArray × Int)))).2).getD p5.toNat ((⟨#[]⟩ : ByteArray), (0 : Int))).1).size : Int) (5 : Int)).toNat) (⟨#[]⟩ : ByteArray)), (IntKind.wrap .i64 ((Int.tmod (bits .and .i64 ((((p0.getD p4.toNat ((⟨#[]⟩ : ByteArray), ([] : List (ByteArray × Int)))).2).getD p5.toNat ((⟨#[]⟩ : ByteArray), (0 : Int))).2) (255 : Int)) (3 : Int)) + (1 : Int))))] : List (ByteArray × Int)).length) * 24 ≤ 140737488355328) = true then L18_1 k κ p0 p1 p2 p3 p4 (IntKind.wrap .i64 (p5 + (1 : Int))) p6 (p7 ++ ([((p3.getD ((Int.tmod (((((p0.getD p4.toNat ((⟨#[]⟩ : ByteArray), ([] : List (ByteArray × Int)))).2).getD p5.toNat ((⟨#[]⟩ : ByteArray), (0 : Int))).1).size : Int) (5 : Int)).toNat) (⟨#[]⟩ : ByteArray)), (IntKind.wrap .i64 ((Int.tmod (bits .and .i64 ((((p0.getD p4.toNat ((⟨#[]⟩ : ByteArray), ([] : List (ByteArray × Int)))).2).getD p5.toNat ((⟨#[]⟩ : ByteArray), (0 : Int))).2) (255 : Int)) (3 : Int)) + (1 : Int))))] : List (ByteArray × Int))) K else none else none else none else none else none)
          else
           (if decide ((p7.length + ([((p3.getD p5.toNat (⟨#[]⟩ : ByteArray)), (IntKind.wrap .i64 ((Int.tmod (bits .and .i64 ((((p0.getD p4.toNat ((⟨#[]⟩ : ByteArray), ([] : List (ByteArray × Int)))).2).getD p5.toNat ((⟨#[]⟩ : ByteArray), (0 : Int))).2) (255 : Int)) (3 : Int)) + (1 : Int))))] : List (ByteArray × Int)).length) * 24 ≤ 140737488355328) = true then L18_1 k κ p0 p1 p2 p3 p4 (IntKind.wrap .i64 (p5 + (1 : Int))) p6 (p7 ++ ([((p3.getD p5.toNat (⟨#[]⟩ : ByteArray)), (IntKind.wrap .i64 ((Int.tmod (bits .and .i64 ((((p0.getD p4.toNat ((⟨#[]⟩ : ByteArray), ([] : List (ByteArray × Int)))).2).getD p5.toNat ((⟨#[]⟩ : ByteArray), (0 : Int))).2) (255 : Int)) (3 : Int)) + (1 : Int))))] : List (ByteArray × Int))) K else none)))
        else
         (none))
       else
        (none))
      else
       (none))
     else
      (none))
    else
     (K (p5, p7)))
   else
    (K (p5, p7)))
  else
   (none)
def L18_1_s : List SC := [.one (.list (.pair .str (.list (.pair .str (.int .i64)))) .no), .one (.int .i64), .one .undef, .one .undef, .one .undef, .one (.list (.pair .str (.list (.pair .str (.int .i64)))) (.own false false)), .one (.list .str (.own false false)), .one (.int .i64), .one (.ref 8 0), .one (.int .i64), .one .undef, .one .undef, .one .undef, .one .undef, .one .undef, .one .undef, .one .undef, .one .undef, .one .undef, .one .undef, .one .undef, .one .undef, .one .undef, .one .undef, .one .undef, .one .undef, .one .undef, .one .undef, .one .undef, .one .undef, .one .undef, .one .undef, .one .undef, .one .undef, .one .undef, .one .undef, .one .undef, .one .undef, .one .undef, .one .undef, .one .undef, .one .undef, .one .undef, .one .undef, .one .undef, .one .undef, .one .undef, .one .undef, .one .undef, .one .undef, .one .undef, .one .undef, .one .undef, .one .undef, .one .undef, .one .undef, .one .undef, .one .undef, .one .undef, .one .undef, .one .undef, .one .undef, .one .undef, .one .undef, .one .undef, .one .undef, .one .undef, .one .undef, .one .undef, .one .undef, .one .undef, .one .undef, .one .undef, .one .undef, .one .undef, .one .undef, .one .undef, .one .undef, .one .undef, .one .undef, .one .undef, .one .undef, .one .undef, .one .undef, .one .undef, .one .undef, .one .undef, .one .undef, .one .undef, .one .undef, .one .undef, .one .undef, .one .undef, .one .undef, .one .undef, .one .undef, .one .undef, .one .undef, .one .undef, .one .undef, .one .undef, .one .undef, .one .undef, .one .undef, .one .undef, .one .undef, .one .undef, .one .undef, .one .undef, .one .undef, .one .undef, .one .undef, .one .undef, .one .undef, .one .undef, .one .undef, .one .undef, .one .undef, .one .undef, .one .undef, .one .undef, .one .undef, .one .undef, .one .undef, .one .undef, .one .undef, .one .undef, .one .undef, .one .undef, .one .undef, .one .undef, .one .undef]
def L18_1_b : List (List SC) := [[], [], [], [], [], [], [], [], [.one .str, .one (.list (.pair .str (.int .i64)) (.own false false))], [], [], [], [], [], [], [], [], [], [], [], [], [], [], [], [], [], [], [], [], [], [], [], [], [], [], [], [], [], [], [], [], [], [], [], [], [], [], [], [], [], [], [], [], [], [], [], [], [], [], [], [], [], [], [], [], [], [], [], [], [], [], [], [], [], [], [], [], [], [], [], [], [], [], [], [], [], [], [], [], [], [], [], [], [], [], [], [], [], [], [], [], [], [], [], [], [], [], [], [], [], [], [], [], [], [], [], [], [], [], [], [], [], [], [], [], [], [], [], [], [], [], []]
def L18_1_m (k : Nat) (κ : Res → Option Res) (lf : LoopF) : LoopF := fun p σ K => if pathEq p [true, true, true, false, true, false, false, true, false, false, true, true, true, false, true, false] = true then (if okSt 132 L18_1_s L18_1_b σ = true then L18_1 k (fun x => κ ((.list (.pair .str (.list (.pair .str (.int .i64)))) x (.own false false), []) : Res)) (listOf (.pair .str (.list (.pair .str (.int .i64)))) (nth σ.slots 0)) (intOf (nth σ.slots 1)) (listOf (.pair .str (.list (.pair .str (.int .i64)))) (nth σ.slots 5)) (listOf .str (nth σ.slots 6)) (intOf (nth σ.slots 7)) (intOf (nth σ.slots 9)) (stringOf (nth (nthB σ.boxes 8) 0)) (listOf (.pair .str (.int .i64)) (nth (nthB σ.boxes 8) 1)) (fun v => K (.exit 2) ⟨132, [.list (.pair .str (.list (.pair .str (.int .i64)))) (listOf (.pair .str (.list (.pair .str (.int .i64)))) (nth σ.slots 0)) .no, .int .i64 (intOf (nth σ.slots 1)), .undef, .undef, .undef, .list (.pair .str (.list (.pair .str (.int .i64)))) (listOf (.pair .str (.list (.pair .str (.int .i64)))) (nth σ.slots 5)) (.own false false), .list .str (listOf .str (nth σ.slots 6)) (.own false false), .int .i64 (intOf (nth σ.slots 7)), .ref 8 0, .int .i64 v.1, .undef, .undef, .undef, .undef, .undef, .undef, .undef, .undef, .undef, .undef, .undef, .undef, .undef, .undef, .undef, .undef, .undef, .undef, .undef, .undef, .undef, .undef, .undef, .undef, .undef, .undef, .undef, .undef, .undef, .undef, .undef, .undef, .undef, .undef, .undef, .undef, .undef, .undef, .undef, .undef, .undef, .undef, .undef, .undef, .undef, .undef, .undef, .undef, .undef, .undef, .undef, .undef, .undef, .undef, .undef, .undef, .undef, .undef, .undef, .undef, .undef, .undef, .undef, .undef, .undef, .undef, .undef, .undef, .undef, .undef, .undef, .undef, .undef, .undef, .undef, .undef, .undef, .undef, .undef, .undef, .undef, .undef, .undef, .undef, .undef, .undef, .undef, .undef, .undef, .undef, .undef, .undef, .undef, .undef, .undef, .undef, .undef, .undef, .undef, .undef, .undef, .undef, .undef, .undef, .undef, .undef, .undef, .undef, .undef, .undef, .undef, .undef, .undef, .undef, .undef, .undef, .undef, .undef, .undef, .undef, .undef, .undef], [[], [], [], [], [], [], [], [], [.str (stringOf (nth (nthB σ.boxes 8) 0)), .list (.pair .str (.int .i64)) v.2 (.own false false)], [], [], [], [], [], [], [], [], [], [], [], [], [], [], [], [], [], [], [], [], [], [], [], [], [], [], [], [], [], [], [], [], [], [], [], [], [], [], [], [], [], [], [], [], [], [], [], [], [], [], [], [], [], [], [], [], [], [], [], [], [], [], [], [], [], [], [], [], [], [], [], [], [], [], [], [], [], [], [], [], [], [], [], [], [], [], [], [], [], [], [], [], [], [], [], [], [], [], [], [], [], [], [], [], [], [], [], [], [], [], [], [], [], [], [], [], [], [], [], [], [], [], []]⟩) else lf p σ K) else lf p σ K
theorem L18_1_d (k : Nat) (κ : Res → Option Res) (h : ∀ (p0 : (List (ByteArray × (List (ByteArray × Int))))) (p1 : Int) (p2 : (List (ByteArray × (List (ByteArray × Int))))) (p3 : (List ByteArray)) (p4 : Int) (p5 : Int) (p6 : ByteArray) (p7 : (List (ByteArray × Int))) (K : Cont), (ev Try.prog cfg k).loop 18 0 κ [true, true, true, false, true, false, false, true, false, false, true, true, true, false, true, false] ⟨132, [.list (.pair .str (.list (.pair .str (.int .i64)))) p0 .no, .int .i64 p1, .undef, .undef, .undef, .list (.pair .str (.list (.pair .str (.int .i64)))) p2 (.own false false), .list .str p3 (.own false false), .int .i64 p4, .ref 8 0, .int .i64 p5, .undef, .undef, .undef, .undef, .undef, .undef, .undef, .undef, .undef, .undef, .undef, .undef, .undef, .undef, .undef, .undef, .undef, .undef, .undef, .undef, .undef, .undef, .undef, .undef, .undef, .undef, .undef, .undef, .undef, .undef, .undef, .undef, .undef, .undef, .undef, .undef, .undef, .undef, .undef, .undef, .undef, .undef, .undef, .undef, .undef, .undef, .undef, .undef, .undef, .undef, .undef, .undef, .undef, .undef, .undef, .undef, .undef, .undef, .undef, .undef, .undef, .undef, .undef, .undef, .undef, .undef, .undef, .undef, .undef, .undef, .undef, .undef, .undef, .undef, .undef, .undef, .undef, .undef, .undef, .undef, .undef, .undef, .undef, .undef, .undef, .undef, .undef, .undef, .undef, .undef, .undef, .undef, .undef, .undef, .undef, .undef, .undef, .undef, .undef, .undef, .undef, .undef, .undef, .undef, .undef, .undef, .undef, .undef, .undef, .undef, .undef, .undef, .undef, .undef, .undef, .undef, .undef, .undef, .undef, .undef, .undef, .undef], [[], [], [], [], [], [], [], [], [.str p6, .list (.pair .str (.int .i64)) p7 (.own false false)], [], [], [], [], [], [], [], [], [], [], [], [], [], [], [], [], [], [], [], [], [], [], [], [], [], [], [], [], [], [], [], [], [], [], [], [], [], [], [], [], [], [], [], [], [], [], [], [], [], [], [], [], [], [], [], [], [], [], [], [], [], [], [], [], [], [], [], [], [], [], [], [], [], [], [], [], [], [], [], [], [], [], [], [], [], [], [], [], [], [], [], [], [], [], [], [], [], [], [], [], [], [], [], [], [], [], [], [], [], [], [], [], [], [], [], [], [], [], [], [], [], [], []]⟩ K = L18_1 k (fun x => κ ((.list (.pair .str (.list (.pair .str (.int .i64)))) x (.own false false), []) : Res)) p0 p1 p2 p3 p4 p5 p6 p7 (fun v => K (.exit 2) ⟨132, [.list (.pair .str (.list (.pair .str (.int .i64)))) p0 .no, .int .i64 p1, .undef, .undef, .undef, .list (.pair .str (.list (.pair .str (.int .i64)))) p2 (.own false false), .list .str p3 (.own false false), .int .i64 p4, .ref 8 0, .int .i64 v.1, .undef, .undef, .undef, .undef, .undef, .undef, .undef, .undef, .undef, .undef, .undef, .undef, .undef, .undef, .undef, .undef, .undef, .undef, .undef, .undef, .undef, .undef, .undef, .undef, .undef, .undef, .undef, .undef, .undef, .undef, .undef, .undef, .undef, .undef, .undef, .undef, .undef, .undef, .undef, .undef, .undef, .undef, .undef, .undef, .undef, .undef, .undef, .undef, .undef, .undef, .undef, .undef, .undef, .undef, .undef, .undef, .undef, .undef, .undef, .undef, .undef, .undef, .undef, .undef, .undef, .undef, .undef, .undef, .undef, .undef, .undef, .undef, .undef, .undef, .undef, .undef, .undef, .undef, .undef, .undef, .undef, .undef, .undef, .undef, .undef, .undef, .undef, .undef, .undef, .undef, .undef, .undef, .undef, .undef, .undef, .undef, .undef, .undef, .undef, .undef, .undef, .undef, .undef, .undef, .undef, .undef, .undef, .undef, .undef, .undef, .undef, .undef, .undef, .undef, .undef, .undef, .undef, .undef, .undef, .undef, .undef, .undef], [[], [], [], [], [], [], [], [], [.str p6, .list (.pair .str (.int .i64)) v.2 (.own false false)], [], [], [], [], [], [], [], [], [], [], [], [], [], [], [], [], [], [], [], [], [], [], [], [], [], [], [], [], [], [], [], [], [], [], [], [], [], [], [], [], [], [], [], [], [], [], [], [], [], [], [], [], [], [], [], [], [], [], [], [], [], [], [], [], [], [], [], [], [], [], [], [], [], [], [], [], [], [], [], [], [], [], [], [], [], [], [], [], [], [], [], [], [], [], [], [], [], [], [], [], [], [], [], [], [], [], [], [], [], [], [], [], [], [], [], [], [], [], [], [], [], [], []]⟩)) : L18_1_m k κ ((ev Try.prog cfg k).loop 18 0 κ) = (ev Try.prog cfg k).loop 18 0 κ := by
  funext p σ K
  unfold L18_1_m
  split
  · rename_i hp
    split
    · rename_i hs
      have e : mkSt 132 L18_1_s L18_1_b σ = ⟨132, [.list (.pair .str (.list (.pair .str (.int .i64)))) (listOf (.pair .str (.list (.pair .str (.int .i64)))) (nth σ.slots 0)) .no, .int .i64 (intOf (nth σ.slots 1)), .undef, .undef, .undef, .list (.pair .str (.list (.pair .str (.int .i64)))) (listOf (.pair .str (.list (.pair .str (.int .i64)))) (nth σ.slots 5)) (.own false false), .list .str (listOf .str (nth σ.slots 6)) (.own false false), .int .i64 (intOf (nth σ.slots 7)), .ref 8 0, .int .i64 (intOf (nth σ.slots 9)), .undef, .undef, .undef, .undef, .undef, .undef, .undef, .undef, .undef, .undef, .undef, .undef, .undef, .undef, .undef, .undef, .undef, .undef, .undef, .undef, .undef, .undef, .undef, .undef, .undef, .undef, .undef, .undef, .undef, .undef, .undef, .undef, .undef, .undef, .undef, .undef, .undef, .undef, .undef, .undef, .undef, .undef, .undef, .undef, .undef, .undef, .undef, .undef, .undef, .undef, .undef, .undef, .undef, .undef, .undef, .undef, .undef, .undef, .undef, .undef, .undef, .undef, .undef, .undef, .undef, .undef, .undef, .undef, .undef, .undef, .undef, .undef, .undef, .undef, .undef, .undef, .undef, .undef, .undef, .undef, .undef, .undef, .undef, .undef, .undef, .undef, .undef, .undef, .undef, .undef, .undef, .undef, .undef, .undef, .undef, .undef, .undef, .undef, .undef, .undef, .undef, .undef, .undef, .undef, .undef, .undef, .undef, .undef, .undef, .undef, .undef, .undef, .undef, .undef, .undef, .undef, .undef, .undef, .undef, .undef, .undef, .undef], [[], [], [], [], [], [], [], [], [.str (stringOf (nth (nthB σ.boxes 8) 0)), .list (.pair .str (.int .i64)) (listOf (.pair .str (.int .i64)) (nth (nthB σ.boxes 8) 1)) (.own false false)], [], [], [], [], [], [], [], [], [], [], [], [], [], [], [], [], [], [], [], [], [], [], [], [], [], [], [], [], [], [], [], [], [], [], [], [], [], [], [], [], [], [], [], [], [], [], [], [], [], [], [], [], [], [], [], [], [], [], [], [], [], [], [], [], [], [], [], [], [], [], [], [], [], [], [], [], [], [], [], [], [], [], [], [], [], [], [], [], [], [], [], [], [], [], [], [], [], [], [], [], [], [], [], [], [], [], [], [], [], [], [], [], [], [], [], [], [], [], [], [], [], [], []]⟩ := by kernel_rfl
      rw [pathEq_eq hp]
      exact (h (listOf (.pair .str (.list (.pair .str (.int .i64)))) (nth σ.slots 0)) (intOf (nth σ.slots 1)) (listOf (.pair .str (.list (.pair .str (.int .i64)))) (nth σ.slots 5)) (listOf .str (nth σ.slots 6)) (intOf (nth σ.slots 7)) (intOf (nth σ.slots 9)) (stringOf (nth (nthB σ.boxes 8) 0)) (listOf (.pair .str (.int .i64)) (nth (nthB σ.boxes 8) 1)) K).symm.trans (congrArg (fun s => (ev Try.prog cfg k).loop 18 0 κ [true, true, true, false, true, false, false, true, false, false, true, true, true, false, true, false] s K) (e.symm.trans (okSt_eq hs).symm))
    · rfl
  · rfl
theorem L18_1_ev : ∀ (k : Nat) (κ : Res → Option Res) (p0 : (List (ByteArray × (List (ByteArray × Int))))) (p1 : Int) (p2 : (List (ByteArray × (List (ByteArray × Int))))) (p3 : (List ByteArray)) (p4 : Int) (p5 : Int) (p6 : ByteArray) (p7 : (List (ByteArray × Int))) (K : Cont), (ev Try.prog cfg k).loop 18 0 κ [true, true, true, false, true, false, false, true, false, false, true, true, true, false, true, false] ⟨132, [.list (.pair .str (.list (.pair .str (.int .i64)))) p0 .no, .int .i64 p1, .undef, .undef, .undef, .list (.pair .str (.list (.pair .str (.int .i64)))) p2 (.own false false), .list .str p3 (.own false false), .int .i64 p4, .ref 8 0, .int .i64 p5, .undef, .undef, .undef, .undef, .undef, .undef, .undef, .undef, .undef, .undef, .undef, .undef, .undef, .undef, .undef, .undef, .undef, .undef, .undef, .undef, .undef, .undef, .undef, .undef, .undef, .undef, .undef, .undef, .undef, .undef, .undef, .undef, .undef, .undef, .undef, .undef, .undef, .undef, .undef, .undef, .undef, .undef, .undef, .undef, .undef, .undef, .undef, .undef, .undef, .undef, .undef, .undef, .undef, .undef, .undef, .undef, .undef, .undef, .undef, .undef, .undef, .undef, .undef, .undef, .undef, .undef, .undef, .undef, .undef, .undef, .undef, .undef, .undef, .undef, .undef, .undef, .undef, .undef, .undef, .undef, .undef, .undef, .undef, .undef, .undef, .undef, .undef, .undef, .undef, .undef, .undef, .undef, .undef, .undef, .undef, .undef, .undef, .undef, .undef, .undef, .undef, .undef, .undef, .undef, .undef, .undef, .undef, .undef, .undef, .undef, .undef, .undef, .undef, .undef, .undef, .undef, .undef, .undef, .undef, .undef, .undef, .undef], [[], [], [], [], [], [], [], [], [.str p6, .list (.pair .str (.int .i64)) p7 (.own false false)], [], [], [], [], [], [], [], [], [], [], [], [], [], [], [], [], [], [], [], [], [], [], [], [], [], [], [], [], [], [], [], [], [], [], [], [], [], [], [], [], [], [], [], [], [], [], [], [], [], [], [], [], [], [], [], [], [], [], [], [], [], [], [], [], [], [], [], [], [], [], [], [], [], [], [], [], [], [], [], [], [], [], [], [], [], [], [], [], [], [], [], [], [], [], [], [], [], [], [], [], [], [], [], [], [], [], [], [], [], [], [], [], [], [], [], [], [], [], [], [], [], [], []]⟩ K = L18_1 k (fun x => κ ((.list (.pair .str (.list (.pair .str (.int .i64)))) x (.own false false), []) : Res)) p0 p1 p2 p3 p4 p5 p6 p7 (fun v => K (.exit 2) ⟨132, [.list (.pair .str (.list (.pair .str (.int .i64)))) p0 .no, .int .i64 p1, .undef, .undef, .undef, .list (.pair .str (.list (.pair .str (.int .i64)))) p2 (.own false false), .list .str p3 (.own false false), .int .i64 p4, .ref 8 0, .int .i64 v.1, .undef, .undef, .undef, .undef, .undef, .undef, .undef, .undef, .undef, .undef, .undef, .undef, .undef, .undef, .undef, .undef, .undef, .undef, .undef, .undef, .undef, .undef, .undef, .undef, .undef, .undef, .undef, .undef, .undef, .undef, .undef, .undef, .undef, .undef, .undef, .undef, .undef, .undef, .undef, .undef, .undef, .undef, .undef, .undef, .undef, .undef, .undef, .undef, .undef, .undef, .undef, .undef, .undef, .undef, .undef, .undef, .undef, .undef, .undef, .undef, .undef, .undef, .undef, .undef, .undef, .undef, .undef, .undef, .undef, .undef, .undef, .undef, .undef, .undef, .undef, .undef, .undef, .undef, .undef, .undef, .undef, .undef, .undef, .undef, .undef, .undef, .undef, .undef, .undef, .undef, .undef, .undef, .undef, .undef, .undef, .undef, .undef, .undef, .undef, .undef, .undef, .undef, .undef, .undef, .undef, .undef, .undef, .undef, .undef, .undef, .undef, .undef, .undef, .undef, .undef, .undef, .undef, .undef, .undef, .undef, .undef, .undef], [[], [], [], [], [], [], [], [], [.str p6, .list (.pair .str (.int .i64)) v.2 (.own false false)], [], [], [], [], [], [], [], [], [], [], [], [], [], [], [], [], [], [], [], [], [], [], [], [], [], [], [], [], [], [], [], [], [], [], [], [], [], [], [], [], [], [], [], [], [], [], [], [], [], [], [], [], [], [], [], [], [], [], [], [], [], [], [], [], [], [], [], [], [], [], [], [], [], [], [], [], [], [], [], [], [], [], [], [], [], [], [], [], [], [], [], [], [], [], [], [], [], [], [], [], [], [], [], [], [], [], [], [], [], [], [], [], [], [], [], [], [], [], [], [], [], [], []]⟩) := by
  intro k κ
  induction k with
  | zero => intro p0 p1 p2 p3 p4 p5 p6 p7 K; rfl
  | succ k ih =>
    intro p0 p1 p2 p3 p4 p5 p6 p7 K
    rw [ev_loop, ← L18_1_d k κ ih]
    kernel_rfl
def L18_0 : Nat → ((List (ByteArray × (List (ByteArray × Int)))) → Option Res) → (List (ByteArray × (List (ByteArray × Int)))) → Int → (List (ByteArray × (List (ByteArray × Int)))) → (List ByteArray) → Int → ((List (ByteArray × (List (ByteArray × Int)))) × Int → Option Res) → Option Res
  | 0, _, _, _, _, _, _, _ => none
  | k + 1, κ, p0, p1, p2, p3, p4, K =>
  if decide (p4 < (p0.length : Int)) = true then
   (if decide (p4 < (5 : Int)) = true then
    (if (decide ((0 : Int) ≤ p4) && decide (p4 < (p3.length : Int))) = true then
     (if decide (p4.toNat < p3.length) = true then
      (if ((bits .and .i64 p1 (15 : Int)) == (0 : Int)) = true then
       (if (decide ((0 : Int) ≤ p4) && decide (p4 < (p0.length : Int))) = true then
        (if (decide ((0 : Int) ≤ (Int.tmod (((p0.getD p4.toNat ((⟨#[]⟩ : ByteArray), ([] : List (ByteArray × Int)))).1).size : Int) (5 : Int))) && decide ((Int.tmod (((p0.getD p4.toNat ((⟨#[]⟩ : ByteArray), ([] : List (ByteArray × Int)))).1).size : Int) (5 : Int)) < (p3.length : Int))) = true then
         (if decide ((Int.tmod (((p0.getD p4.toNat ((⟨#[]⟩ : ByteArray), ([] : List (ByteArray × Int)))).1).size : Int) (5 : Int)).toNat < p3.length) = true then
          (if ((bits .and .i64 p1 (15 : Int)) == (1 : Int)) = true then
           (if (decide ((0 : Int) ≤ p4) && decide (p4 < (p0.length : Int))) = true then
            (if (decide ((0 : Int) ≤ p4) && decide (p4 < (p0.length : Int))) = true then
             (if (decide ((0 : Int) ≤ (imin (((p0.getD p4.toNat ((⟨#[]⟩ : ByteArray), ([] : List (ByteArray × Int)))).1).size : Int) (18 : Int))) && decide ((imin (((p0.getD p4.toNat ((⟨#[]⟩ : ByteArray), ([] : List (ByteArray × Int)))).1).size : Int) (18 : Int)) ≤ (((p0.getD p4.toNat ((⟨#[]⟩ : ByteArray), ([] : List (ByteArray × Int)))).1).size : Int))) = true then
              (L18_1 k κ p0 p1 p2 p3 p4 (0 : Int) (((p0.getD p4.toNat ((⟨#[]⟩ : ByteArray), ([] : List (ByteArray × Int)))).1).extract (0 : Int).toNat (imin (((p0.getD p4.toNat ((⟨#[]⟩ : ByteArray), ([] : List (ByteArray × Int)))).1).size : Int) (18 : Int)).toNat) ([] : List (ByteArray × Int)) fun v1 =>
              if decide ((p2.length + ([((((p0.getD p4.toNat ((⟨#[]⟩ : ByteArray), ([] : List (ByteArray × Int)))).1).extract (0 : Int).toNat (imin (((p0.getD p4.toNat ((⟨#[]⟩ : ByteArray), ([] : List (ByteArray × Int)))).1).size : Int) (18 : Int)).toNat), v1.2)] : List (ByteArray × (List (ByteArray × Int)))).length) * 40 ≤ 140737488355328) = true then L18_0 k κ p0 p1 (p2 ++ ([((((p0.getD p4.toNat ((⟨#[]⟩ : ByteArray), ([] : List (ByteArray × Int)))).1).extract (0 : Int).toNat (imin (((p0.getD p4.toNat ((⟨#[]⟩ : ByteArray), ([] : List (ByteArray × Int)))).1).size : Int) (18 : Int)).toNat), v1.2)] : List (ByteArray × (List (ByteArray × Int))))) p3 (IntKind.wrap .i64 (p4 + (1 : Int))) K else none)
             else
              (none))
            else
             (none))
           else
            (none))
          else
           (L18_1 k κ p0 p1 p2 p3 p4 (0 : Int) (p3.getD ((Int.tmod (((p0.getD p4.toNat ((⟨#[]⟩ : ByteArray), ([] : List (ByteArray × Int)))).1).size : Int) (5 : Int)).toNat) (⟨#[]⟩ : ByteArray)) ([] : List (ByteArray × Int)) fun v2 =>
           if decide ((p2.length + ([((p3.getD ((Int.tmod (((p0.getD p4.toNat ((⟨#[]⟩ : ByteArray), ([] : List (ByteArray × Int)))).1).size : Int) (5 : Int)).toNat) (⟨#[]⟩ : ByteArray)), v2.2)] : List (ByteArray × (List (ByteArray × Int)))).length) * 40 ≤ 140737488355328) = true then L18_0 k κ p0 p1 (p2 ++ ([((p3.getD ((Int.tmod (((p0.getD p4.toNat ((⟨#[]⟩ : ByteArray), ([] : List (ByteArray × Int)))).1).size : Int) (5 : Int)).toNat) (⟨#[]⟩ : ByteArray)), v2.2)] : List (ByteArray × (List (ByteArray × Int))))) p3 (IntKind.wrap .i64 (p4 + (1 : Int))) K else none))
         else
          (none))
        else
         (none))
       else
        (none))
      else
       (if ((bits .and .i64 p1 (15 : Int)) == (1 : Int)) = true then
        (if (decide ((0 : Int) ≤ p4) && decide (p4 < (p0.length : Int))) = true then
         (if (decide ((0 : Int) ≤ p4) && decide (p4 < (p0.length : Int))) = true then
          (if (decide ((0 : Int) ≤ (imin (((p0.getD p4.toNat ((⟨#[]⟩ : ByteArray), ([] : List (ByteArray × Int)))).1).size : Int) (18 : Int))) && decide ((imin (((p0.getD p4.toNat ((⟨#[]⟩ : ByteArray), ([] : List (ByteArray × Int)))).1).size : Int) (18 : Int)) ≤ (((p0.getD p4.toNat ((⟨#[]⟩ : ByteArray), ([] : List (ByteArray × Int)))).1).size : Int))) = true then
           (L18_1 k κ p0 p1 p2 p3 p4 (0 : Int) (((p0.getD p4.toNat ((⟨#[]⟩ : ByteArray), ([] : List (ByteArray × Int)))).1).extract (0 : Int).toNat (imin (((p0.getD p4.toNat ((⟨#[]⟩ : ByteArray), ([] : List (ByteArray × Int)))).1).size : Int) (18 : Int)).toNat) ([] : List (ByteArray × Int)) fun v3 =>
           if decide ((p2.length + ([((((p0.getD p4.toNat ((⟨#[]⟩ : ByteArray), ([] : List (ByteArray × Int)))).1).extract (0 : Int).toNat (imin (((p0.getD p4.toNat ((⟨#[]⟩ : ByteArray), ([] : List (ByteArray × Int)))).1).size : Int) (18 : Int)).toNat), v3.2)] : List (ByteArray × (List (ByteArray × Int)))).length) * 40 ≤ 140737488355328) = true then L18_0 k κ p0 p1 (p2 ++ ([((((p0.getD p4.toNat ((⟨#[]⟩ : ByteArray), ([] : List (ByteArray × Int)))).1).extract (0 : Int).toNat (imin (((p0.getD p4.toNat ((⟨#[]⟩ : ByteArray), ([] : List (ByteArray × Int)))).1).size : Int) (18 : Int)).toNat), v3.2)] : List (ByteArray × (List (ByteArray × Int))))) p3 (IntKind.wrap .i64 (p4 + (1 : Int))) K else none)
          else
           (none))
         else
          (none))
        else
         (none))
       else
        (L18_1 k κ p0 p1 p2 p3 p4 (0 : Int) (p3.getD p4.toNat (⟨#[]⟩ : ByteArray)) ([] : List (ByteArray × Int)) fun v4 =>
        if decide ((p2.length + ([((p3.getD p4.toNat (⟨#[]⟩ : ByteArray)), v4.2)] : List (ByteArray × (List (ByteArray × Int)))).length) * 40 ≤ 140737488355328) = true then L18_0 k κ p0 p1 (p2 ++ ([((p3.getD p4.toNat (⟨#[]⟩ : ByteArray)), v4.2)] : List (ByteArray × (List (ByteArray × Int))))) p3 (IntKind.wrap .i64 (p4 + (1 : Int))) K else none)))
     else
      (none))
    else
     (none))
   else
    (K (p2, p4)))
  else
   (K (p2, p4))
def L18_0_s : List SC := [.one (.list (.pair .str (.list (.pair .str (.int .i64)))) .no), .one (.int .i64), .one .undef, .one .undef, .one .undef, .one (.list (.pair .str (.list (.pair .str (.int .i64)))) (.own false false)), .one (.list .str (.own false false)), .one (.int .i64), .one .undef, .one .undef, .one .undef, .one .undef, .one .undef, .one .undef, .one .undef, .one .undef, .one .undef, .one .undef, .one .undef, .one .undef, .one .undef, .one .undef, .one .undef, .one .undef, .one .undef, .one .undef, .one .undef, .one .undef, .one .undef, .one .undef, .one .undef, .one .undef, .one .undef, .one .undef, .one .undef, .one .undef, .one .undef, .one .undef, .one .undef, .one .undef, .one .undef, .one .undef, .one .undef, .one .undef, .one .undef, .one .undef, .one .undef, .one .undef, .one .undef, .one .undef, .one .undef, .one .undef, .one .undef, .one .undef, .one .undef, .one .undef, .one .undef, .one .undef, .one .undef, .one .undef, .one .undef, .one .undef, .one .undef, .one .undef, .one .undef, .one .undef, .one .undef, .one .undef, .one .undef, .one .undef, .one .undef, .one .undef, .one .undef, .one .undef, .one .undef, .one .undef, .one .undef, .one .undef, .one .undef, .one .undef, .one .undef, .one .undef, .one .undef, .one .undef, .one .undef, .one .undef, .one .undef, .one .undef, .one .undef, .one .undef, .one .undef, .one .undef, .one .undef, .one .undef, .one .undef, .one .undef, .one .undef, .one .undef, .one .undef, .one .undef, .one .undef, .one .undef, .one .undef, .one .undef, .one .undef, .one .undef, .one .undef, .one .undef, .one .undef, .one .undef, .one .undef, .one .undef, .one .undef, .one .undef, .one .undef, .one .undef, .one .undef, .one .undef, .one .undef, .one .undef, .one .undef, .one .undef, .one .undef, .one .undef, .one .undef, .one .undef, .one .undef, .one .undef, .one .undef, .one .undef, .one .undef, .one .undef]
def L18_0_b : List (List SC) := [[], [], [], [], [], [], [], [], [], [], [], [], [], [], [], [], [], [], [], [], [], [], [], [], [], [], [], [], [], [], [], [], [], [], [], [], [], [], [], [], [], [], [], [], [], [], [], [], [], [], [], [], [], [], [], [], [], [], [], [], [], [], [], [], [], [], [], [], [], [], [], [], [], [], [], [], [], [], [], [], [], [], [], [], [], [], [], [], [], [], [], [], [], [], [], [], [], [], [], [], [], [], [], [], [], [], [], [], [], [], [], [], [], [], [], [], [], [], [], [], [], [], [], [], [], [], [], [], [], [], [], []]
def L18_0_m (k : Nat) (κ : Res → Option Res) (lf : LoopF) : LoopF := fun p σ K => if pathEq p [true, true, true, false, true, false] = true then (if okSt 132 L18_0_s L18_0_b σ = true then L18_0 k (fun x => κ ((.list (.pair .str (.list (.pair .str (.int .i64)))) x (.own false false), []) : Res)) (listOf (.pair .str (.list (.pair .str (.int .i64)))) (nth σ.slots 0)) (intOf (nth σ.slots 1)) (listOf (.pair .str (.list (.pair .str (.int .i64)))) (nth σ.slots 5)) (listOf .str (nth σ.slots 6)) (intOf (nth σ.slots 7)) (fun v => K (.exit 0) ⟨132, [.list (.pair .str (.list (.pair .str (.int .i64)))) (listOf (.pair .str (.list (.pair .str (.int .i64)))) (nth σ.slots 0)) .no, .int .i64 (intOf (nth σ.slots 1)), .undef, .undef, .undef, .list (.pair .str (.list (.pair .str (.int .i64)))) v.1 (.own false false), .list .str (listOf .str (nth σ.slots 6)) (.own false false), .int .i64 v.2, .undef, .undef, .undef, .undef, .undef, .undef, .undef, .undef, .undef, .undef, .undef, .undef, .undef, .undef, .undef, .undef, .undef, .undef, .undef, .undef, .undef, .undef, .undef, .undef, .undef, .undef, .undef, .undef, .undef, .undef, .undef, .undef, .undef, .undef, .undef, .undef, .undef, .undef, .undef, .undef, .undef, .undef, .undef, .undef, .undef, .undef, .undef, .undef, .undef, .undef, .undef, .undef, .undef, .undef, .undef, .undef, .undef, .undef, .undef, .undef, .undef, .undef, .undef, .undef, .undef, .undef, .undef, .undef, .undef, .undef, .undef, .undef, .undef, .undef, .undef, .undef, .undef, .undef, .undef, .undef, .undef, .undef, .undef, .undef, .undef, .undef, .undef, .undef, .undef, .undef, .undef, .undef, .undef, .undef, .undef, .undef, .undef, .undef, .undef, .undef, .undef, .undef, .undef, .undef, .undef, .undef, .undef, .undef, .undef, .undef, .undef, .undef, .undef, .undef, .undef, .undef, .undef, .undef, .undef, .undef, .undef, .undef, .undef, .undef], [[], [], [], [], [], [], [], [], [], [], [], [], [], [], [], [], [], [], [], [], [], [], [], [], [], [], [], [], [], [], [], [], [], [], [], [], [], [], [], [], [], [], [], [], [], [], [], [], [], [], [], [], [], [], [], [], [], [], [], [], [], [], [], [], [], [], [], [], [], [], [], [], [], [], [], [], [], [], [], [], [], [], [], [], [], [], [], [], [], [], [], [], [], [], [], [], [], [], [], [], [], [], [], [], [], [], [], [], [], [], [], [], [], [], [], [], [], [], [], [], [], [], [], [], [], [], [], [], [], [], [], []]⟩) else lf p σ K) else lf p σ K
theorem L18_0_d (k : Nat) (κ : Res → Option Res) (h : ∀ (p0 : (List (ByteArray × (List (ByteArray × Int))))) (p1 : Int) (p2 : (List (ByteArray × (List (ByteArray × Int))))) (p3 : (List ByteArray)) (p4 : Int) (K : Cont), (ev Try.prog cfg k).loop 18 0 κ [true, true, true, false, true, false] ⟨132, [.list (.pair .str (.list (.pair .str (.int .i64)))) p0 .no, .int .i64 p1, .undef, .undef, .undef, .list (.pair .str (.list (.pair .str (.int .i64)))) p2 (.own false false), .list .str p3 (.own false false), .int .i64 p4, .undef, .undef, .undef, .undef, .undef, .undef, .undef, .undef, .undef, .undef, .undef, .undef, .undef, .undef, .undef, .undef, .undef, .undef, .undef, .undef, .undef, .undef, .undef, .undef, .undef, .undef, .undef, .undef, .undef, .undef, .undef, .undef, .undef, .undef, .undef, .undef, .undef, .undef, .undef, .undef, .undef, .undef, .undef, .undef, .undef, .undef, .undef, .undef, .undef, .undef, .undef, .undef, .undef, .undef, .undef, .undef, .undef, .undef, .undef, .undef, .undef, .undef, .undef, .undef, .undef, .undef, .undef, .undef, .undef, .undef, .undef, .undef, .undef, .undef, .undef, .undef, .undef, .undef, .undef, .undef, .undef, .undef, .undef, .undef, .undef, .undef, .undef, .undef, .undef, .undef, .undef, .undef, .undef, .undef, .undef, .undef, .undef, .undef, .undef, .undef, .undef, .undef, .undef, .undef, .undef, .undef, .undef, .undef, .undef, .undef, .undef, .undef, .undef, .undef, .undef, .undef, .undef, .undef, .undef, .undef, .undef, .undef, .undef, .undef], [[], [], [], [], [], [], [], [], [], [], [], [], [], [], [], [], [], [], [], [], [], [], [], [], [], [], [], [], [], [], [], [], [], [], [], [], [], [], [], [], [], [], [], [], [], [], [], [], [], [], [], [], [], [], [], [], [], [], [], [], [], [], [], [], [], [], [], [], [], [], [], [], [], [], [], [], [], [], [], [], [], [], [], [], [], [], [], [], [], [], [], [], [], [], [], [], [], [], [], [], [], [], [], [], [], [], [], [], [], [], [], [], [], [], [], [], [], [], [], [], [], [], [], [], [], [], [], [], [], [], [], []]⟩ K = L18_0 k (fun x => κ ((.list (.pair .str (.list (.pair .str (.int .i64)))) x (.own false false), []) : Res)) p0 p1 p2 p3 p4 (fun v => K (.exit 0) ⟨132, [.list (.pair .str (.list (.pair .str (.int .i64)))) p0 .no, .int .i64 p1, .undef, .undef, .undef, .list (.pair .str (.list (.pair .str (.int .i64)))) v.1 (.own false false), .list .str p3 (.own false false), .int .i64 v.2, .undef, .undef, .undef, .undef, .undef, .undef, .undef, .undef, .undef, .undef, .undef, .undef, .undef, .undef, .undef, .undef, .undef, .undef, .undef, .undef, .undef, .undef, .undef, .undef, .undef, .undef, .undef, .undef, .undef, .undef, .undef, .undef, .undef, .undef, .undef, .undef, .undef, .undef, .undef, .undef, .undef, .undef, .undef, .undef, .undef, .undef, .undef, .undef, .undef, .undef, .undef, .undef, .undef, .undef, .undef, .undef, .undef, .undef, .undef, .undef, .undef, .undef, .undef, .undef, .undef, .undef, .undef, .undef, .undef, .undef, .undef, .undef, .undef, .undef, .undef, .undef, .undef, .undef, .undef, .undef, .undef, .undef, .undef, .undef, .undef, .undef, .undef, .undef, .undef, .undef, .undef, .undef, .undef, .undef, .undef, .undef, .undef, .undef, .undef, .undef, .undef, .undef, .undef, .undef, .undef, .undef, .undef, .undef, .undef, .undef, .undef, .undef, .undef, .undef, .undef, .undef, .undef, .undef, .undef, .undef, .undef, .undef, .undef, .undef], [[], [], [], [], [], [], [], [], [], [], [], [], [], [], [], [], [], [], [], [], [], [], [], [], [], [], [], [], [], [], [], [], [], [], [], [], [], [], [], [], [], [], [], [], [], [], [], [], [], [], [], [], [], [], [], [], [], [], [], [], [], [], [], [], [], [], [], [], [], [], [], [], [], [], [], [], [], [], [], [], [], [], [], [], [], [], [], [], [], [], [], [], [], [], [], [], [], [], [], [], [], [], [], [], [], [], [], [], [], [], [], [], [], [], [], [], [], [], [], [], [], [], [], [], [], [], [], [], [], [], [], []]⟩)) : L18_0_m k κ ((ev Try.prog cfg k).loop 18 0 κ) = (ev Try.prog cfg k).loop 18 0 κ := by
  funext p σ K
  unfold L18_0_m
  split
  · rename_i hp
    split
    · rename_i hs
      have e : mkSt 132 L18_0_s L18_0_b σ = ⟨132, [.list (.pair .str (.list (.pair .str (.int .i64)))) (listOf (.pair .str (.list (.pair .str (.int .i64)))) (nth σ.slots 0)) .no, .int .i64 (intOf (nth σ.slots 1)), .undef, .undef, .undef, .list (.pair .str (.list (.pair .str (.int .i64)))) (listOf (.pair .str (.list (.pair .str (.int .i64)))) (nth σ.slots 5)) (.own false false), .list .str (listOf .str (nth σ.slots 6)) (.own false false), .int .i64 (intOf (nth σ.slots 7)), .undef, .undef, .undef, .undef, .undef, .undef, .undef, .undef, .undef, .undef, .undef, .undef, .undef, .undef, .undef, .undef, .undef, .undef, .undef, .undef, .undef, .undef, .undef, .undef, .undef, .undef, .undef, .undef, .undef, .undef, .undef, .undef, .undef, .undef, .undef, .undef, .undef, .undef, .undef, .undef, .undef, .undef, .undef, .undef, .undef, .undef, .undef, .undef, .undef, .undef, .undef, .undef, .undef, .undef, .undef, .undef, .undef, .undef, .undef, .undef, .undef, .undef, .undef, .undef, .undef, .undef, .undef, .undef, .undef, .undef, .undef, .undef, .undef, .undef, .undef, .undef, .undef, .undef, .undef, .undef, .undef, .undef, .undef, .undef, .undef, .undef, .undef, .undef, .undef, .undef, .undef, .undef, .undef, .undef, .undef, .undef, .undef, .undef, .undef, .undef, .undef, .undef, .undef, .undef, .undef, .undef, .undef, .undef, .undef, .undef, .undef, .undef, .undef, .undef, .undef, .undef, .undef, .undef, .undef, .undef, .undef, .undef, .undef, .undef], [[], [], [], [], [], [], [], [], [], [], [], [], [], [], [], [], [], [], [], [], [], [], [], [], [], [], [], [], [], [], [], [], [], [], [], [], [], [], [], [], [], [], [], [], [], [], [], [], [], [], [], [], [], [], [], [], [], [], [], [], [], [], [], [], [], [], [], [], [], [], [], [], [], [], [], [], [], [], [], [], [], [], [], [], [], [], [], [], [], [], [], [], [], [], [], [], [], [], [], [], [], [], [], [], [], [], [], [], [], [], [], [], [], [], [], [], [], [], [], [], [], [], [], [], [], [], [], [], [], [], [], []]⟩ := by kernel_rfl
      rw [pathEq_eq hp]
      exact (h (listOf (.pair .str (.list (.pair .str (.int .i64)))) (nth σ.slots 0)) (intOf (nth σ.slots 1)) (listOf (.pair .str (.list (.pair .str (.int .i64)))) (nth σ.slots 5)) (listOf .str (nth σ.slots 6)) (intOf (nth σ.slots 7)) K).symm.trans (congrArg (fun s => (ev Try.prog cfg k).loop 18 0 κ [true, true, true, false, true, false] s K) (e.symm.trans (okSt_eq hs).symm))
    · rfl
  · rfl
theorem L18_0_ev : ∀ (k : Nat) (κ : Res → Option Res) (p0 : (List (ByteArray × (List (ByteArray × Int))))) (p1 : Int) (p2 : (List (ByteArray × (List (ByteArray × Int))))) (p3 : (List ByteArray)) (p4 : Int) (K : Cont), (ev Try.prog cfg k).loop 18 0 κ [true, true, true, false, true, false] ⟨132, [.list (.pair .str (.list (.pair .str (.int .i64)))) p0 .no, .int .i64 p1, .undef, .undef, .undef, .list (.pair .str (.list (.pair .str (.int .i64)))) p2 (.own false false), .list .str p3 (.own false false), .int .i64 p4, .undef, .undef, .undef, .undef, .undef, .undef, .undef, .undef, .undef, .undef, .undef, .undef, .undef, .undef, .undef, .undef, .undef, .undef, .undef, .undef, .undef, .undef, .undef, .undef, .undef, .undef, .undef, .undef, .undef, .undef, .undef, .undef, .undef, .undef, .undef, .undef, .undef, .undef, .undef, .undef, .undef, .undef, .undef, .undef, .undef, .undef, .undef, .undef, .undef, .undef, .undef, .undef, .undef, .undef, .undef, .undef, .undef, .undef, .undef, .undef, .undef, .undef, .undef, .undef, .undef, .undef, .undef, .undef, .undef, .undef, .undef, .undef, .undef, .undef, .undef, .undef, .undef, .undef, .undef, .undef, .undef, .undef, .undef, .undef, .undef, .undef, .undef, .undef, .undef, .undef, .undef, .undef, .undef, .undef, .undef, .undef, .undef, .undef, .undef, .undef, .undef, .undef, .undef, .undef, .undef, .undef, .undef, .undef, .undef, .undef, .undef, .undef, .undef, .undef, .undef, .undef, .undef, .undef, .undef, .undef, .undef, .undef, .undef, .undef], [[], [], [], [], [], [], [], [], [], [], [], [], [], [], [], [], [], [], [], [], [], [], [], [], [], [], [], [], [], [], [], [], [], [], [], [], [], [], [], [], [], [], [], [], [], [], [], [], [], [], [], [], [], [], [], [], [], [], [], [], [], [], [], [], [], [], [], [], [], [], [], [], [], [], [], [], [], [], [], [], [], [], [], [], [], [], [], [], [], [], [], [], [], [], [], [], [], [], [], [], [], [], [], [], [], [], [], [], [], [], [], [], [], [], [], [], [], [], [], [], [], [], [], [], [], [], [], [], [], [], [], []]⟩ K = L18_0 k (fun x => κ ((.list (.pair .str (.list (.pair .str (.int .i64)))) x (.own false false), []) : Res)) p0 p1 p2 p3 p4 (fun v => K (.exit 0) ⟨132, [.list (.pair .str (.list (.pair .str (.int .i64)))) p0 .no, .int .i64 p1, .undef, .undef, .undef, .list (.pair .str (.list (.pair .str (.int .i64)))) v.1 (.own false false), .list .str p3 (.own false false), .int .i64 v.2, .undef, .undef, .undef, .undef, .undef, .undef, .undef, .undef, .undef, .undef, .undef, .undef, .undef, .undef, .undef, .undef, .undef, .undef, .undef, .undef, .undef, .undef, .undef, .undef, .undef, .undef, .undef, .undef, .undef, .undef, .undef, .undef, .undef, .undef, .undef, .undef, .undef, .undef, .undef, .undef, .undef, .undef, .undef, .undef, .undef, .undef, .undef, .undef, .undef, .undef, .undef, .undef, .undef, .undef, .undef, .undef, .undef, .undef, .undef, .undef, .undef, .undef, .undef, .undef, .undef, .undef, .undef, .undef, .undef, .undef, .undef, .undef, .undef, .undef, .undef, .undef, .undef, .undef, .undef, .undef, .undef, .undef, .undef, .undef, .undef, .undef, .undef, .undef, .undef, .undef, .undef, .undef, .undef, .undef, .undef, .undef, .undef, .undef, .undef, .undef, .undef, .undef, .undef, .undef, .undef, .undef, .undef, .undef, .undef, .undef, .undef, .undef, .undef, .undef, .undef, .undef, .undef, .undef, .undef, .undef, .undef, .undef, .undef, .undef], [[], [], [], [], [], [], [], [], [], [], [], [], [], [], [], [], [], [], [], [], [], [], [], [], [], [], [], [], [], [], [], [], [], [], [], [], [], [], [], [], [], [], [], [], [], [], [], [], [], [], [], [], [], [], [], [], [], [], [], [], [], [], [], [], [], [], [], [], [], [], [], [], [], [], [], [], [], [], [], [], [], [], [], [], [], [], [], [], [], [], [], [], [], [], [], [], [], [], [], [], [], [], [], [], [], [], [], [], [], [], [], [], [], [], [], [], [], [], [], [], [], [], [], [], [], [], [], [], [], [], [], []]⟩) := by
  intro k κ
  induction k with
  | zero => intro p0 p1 p2 p3 p4 K; rfl
  | succ k ih =>
    intro p0 p1 p2 p3 p4 K
    rw [ev_loop, ← L18_0_d k κ ih, ← L18_1_d k κ (L18_1_ev k κ)]
    kernel_rfl
/-- lamplighter/lamplighterlaw03.near -/
def F18 : Nat → (List (ByteArray × (List (ByteArray × Int)))) → Int → ((List (ByteArray × (List (ByteArray × Int)))) → Option Res) → Option Res
  | 0, _, _, _ => none
  | k + 1, a0, a1, κ =>
  L18_0 k κ a0 a1 ([] : List (ByteArray × (List (ByteArray × Int)))) ([(⟨#[65]⟩ : ByteArray), (⟨#[66]⟩ : ByteArray), (⟨#[67]⟩ : ByteArray), (⟨#[68]⟩ : ByteArray), (⟨#[69]⟩ : ByteArray)] : List ByteArray) (0 : Int) fun v5 =>
  κ v5.1
def F18_s : List SC := [.one (.list (.pair .str (.list (.pair .str (.int .i64)))) .no), .one (.int .i64)]
def F18_b : List (List SC) := []
def F18_m (k : Nat) (cf : CallF) : CallF := fun f args lent κ => if Nat.beq f 18 = true then (if (okC F18_s args && okB F18_b lent) = true then F18 k (listOf (.pair .str (.list (.pair .str (.int .i64)))) (nth args 0)) (intOf (nth args 1)) (fun x => κ ((.list (.pair .str (.list (.pair .str (.int .i64)))) x (.own false false), []) : Res)) else cf f args lent κ) else cf f args lent κ
theorem F18_d (k : Nat) (h : ∀ (a0 : (List (ByteArray × (List (ByteArray × Int))))) (a1 : Int) (κ : Res → Option Res), (ev Try.prog cfg k).call 18 [.list (.pair .str (.list (.pair .str (.int .i64)))) a0 .no, .int .i64 a1] [] κ = F18 k a0 a1 (fun x => κ ((.list (.pair .str (.list (.pair .str (.int .i64)))) x (.own false false), []) : Res))) : F18_m k (ev Try.prog cfg k).call = (ev Try.prog cfg k).call := by
  funext f args lent κ
  unfold F18_m
  split
  · rename_i hp
    split
    · rename_i hs
      rw [Bool.and_eq_true] at hs
      have e : mkC F18_s 0 args = [.list (.pair .str (.list (.pair .str (.int .i64)))) (listOf (.pair .str (.list (.pair .str (.int .i64)))) (nth args 0)) .no, .int .i64 (intOf (nth args 1))] := by kernel_rfl
      have e' : mkB F18_b 0 lent = [] := by kernel_rfl
      obtain rfl := Nat.eq_of_beq_eq_true hp
      exact (h (listOf (.pair .str (.list (.pair .str (.int .i64)))) (nth args 0)) (intOf (nth args 1)) κ).symm.trans (cong2 (fun a l => (ev Try.prog cfg k).call 18 a l κ) (e.symm.trans (okC_eq hs.1).symm) (e'.symm.trans (okB_eq hs.2).symm))
    · rfl
  · rfl
theorem F18_ev : ∀ (k : Nat) (a0 : (List (ByteArray × (List (ByteArray × Int))))) (a1 : Int) (κ : Res → Option Res), (ev Try.prog cfg k).call 18 [.list (.pair .str (.list (.pair .str (.int .i64)))) a0 .no, .int .i64 a1] [] κ = F18 k a0 a1 (fun x => κ ((.list (.pair .str (.list (.pair .str (.int .i64)))) x (.own false false), []) : Res)) := by
  intro k
  induction k with
  | zero => intros; rfl
  | succ k ih =>
    intro a0 a1 κ
    refine (ev_call' Try.prog cfg k 18 0 _ _ κ (by rfl)).trans ?_
    rw [← L18_0_d k κ (L18_0_ev k κ)]
    kernel_rfl
/-- lamplighter/schema.letter -/
def F79 : Nat → Int → (Bool → Option Res) → Option Res
  | 0, _, _ => none
  | k + 1, a0, κ =>
  if decide (a0 ≥ (97 : Int)) = true then
   (if decide (a0 ≤ (122 : Int)) = true then
    (κ true)
   else
    (if decide (a0 ≥ (65 : Int)) = true then
     (if decide (a0 ≤ (90 : Int)) = true then
      (κ true)
     else
      (κ (a0 == (95 : Int))))
    else
     (κ (a0 == (95 : Int)))))
  else
   (if decide (a0 ≥ (65 : Int)) = true then
    (if decide (a0 ≤ (90 : Int)) = true then
     (κ true)
    else
     (κ (a0 == (95 : Int))))
   else
    (κ (a0 == (95 : Int))))
def F79_s : List SC := [.one (.int .u8)]
def F79_b : List (List SC) := []
def F79_m (k : Nat) (cf : CallF) : CallF := fun f args lent κ => if Nat.beq f 79 = true then (if (okC F79_s args && okB F79_b lent) = true then F79 k (intOf (nth args 0)) (fun x => κ ((.bool x, []) : Res)) else cf f args lent κ) else cf f args lent κ
theorem F79_d (k : Nat) (h : ∀ (a0 : Int) (κ : Res → Option Res), (ev Try.prog cfg k).call 79 [.int .u8 a0] [] κ = F79 k a0 (fun x => κ ((.bool x, []) : Res))) : F79_m k (ev Try.prog cfg k).call = (ev Try.prog cfg k).call := by
  funext f args lent κ
  unfold F79_m
  split
  · rename_i hp
    split
    · rename_i hs
      rw [Bool.and_eq_true] at hs
      have e : mkC F79_s 0 args = [.int .u8 (intOf (nth args 0))] := by kernel_rfl
      have e' : mkB F79_b 0 lent = [] := by kernel_rfl
      obtain rfl := Nat.eq_of_beq_eq_true hp
      exact (h (intOf (nth args 0)) κ).symm.trans (cong2 (fun a l => (ev Try.prog cfg k).call 79 a l κ) (e.symm.trans (okC_eq hs.1).symm) (e'.symm.trans (okB_eq hs.2).symm))
    · rfl
  · rfl
theorem F79_ev : ∀ (k : Nat) (a0 : Int) (κ : Res → Option Res), (ev Try.prog cfg k).call 79 [.int .u8 a0] [] κ = F79 k a0 (fun x => κ ((.bool x, []) : Res)) := by
  intro k
  induction k with
  | zero => intros; rfl
  | succ k ih =>
    intro a0 κ
    refine (ev_call' Try.prog cfg k 79 0 _ _ κ (by rfl)).trans ?_
    skip
    kernel_rfl
def L16_1 : Nat → (Bool → Option Res) → ByteArray → Int → Int → (Int → Option Res) → Option Res
  | 0, _, _, _, _, _ => none
  | k + 1, κ, p0, p1, p2, K =>
  if decide (p2 < p1) = true then
   (if (decide ((0 : Int) ≤ p2) && (decide (p2 ≤ (IntKind.wrap .i64 ((IntKind.wrap .i64 (p2 + (p0.size : Int))) + (2 : Int)))) && decide ((IntKind.wrap .i64 ((IntKind.wrap .i64 (p2 + (p0.size : Int))) + (2 : Int))) ≤ ((⟨#[32, 83, 69, 81, 32, 87, 72, 69, 82, 69, 32, 87, 73, 84, 72, 73, 78, 32, 67, 65, 80, 32, 97, 110, 100, 32, 111, 114, 32, 110, 111, 116, 32, 116, 114, 117, 101, 32, 102, 97, 108, 115, 101, 32]⟩ : ByteArray).size : Int)))) = true then
    (if decide ((⟨#[32]⟩ : ByteArray).size + p0.size ≤ 9223372036854775807) = true then
     (if decide (((⟨#[32]⟩ : ByteArray) ++ p0).size + (⟨#[32]⟩ : ByteArray).size ≤ 9223372036854775807) = true then
      (if (((⟨#[32, 83, 69, 81, 32, 87, 72, 69, 82, 69, 32, 87, 73, 84, 72, 73, 78, 32, 67, 65, 80, 32, 97, 110, 100, 32, 111, 114, 32, 110, 111, 116, 32, 116, 114, 117, 101, 32, 102, 97, 108, 115, 101, 32]⟩ : ByteArray).extract p2.toNat (IntKind.wrap .i64 ((IntKind.wrap .i64 (p2 + (p0.size : Int))) + (2 : Int))).toNat).toList == (((⟨#[32]⟩ : ByteArray) ++ p0) ++ (⟨#[32]⟩ : ByteArray)).toList) = true then
       (κ false)
      else
       (L16_1 k κ p0 p1 (IntKind.wrap .i64 (p2 + (1 : Int))) K))
     else
      (none))
    else
     (none))
   else
    (none))
  else
   (K p2)
def L16_1_s : List SC := [.one .str, .one .undef, .one .undef, .one .undef, .one .undef, .one .undef, .one .undef, .one .undef, .one .undef, .one .undef, .one .undef, .one .undef, .one .undef, .one .undef, .one .undef, .one .undef, .one .undef, .one .undef, .one .undef, .one .undef, .one .undef, .one .undef, .one .undef, .one .undef, .one .undef, .one .undef, .one .undef, .one .undef, .one .undef, .one .undef, .one .undef, .one .undef, .one .undef, .one .undef, .one .undef, .one .undef, .one .undef, .one .undef, .one .undef, .one .undef, .one .undef, .one .undef, .one (.int .i64), .one (.int .i64), .one .undef, .one .undef, .one .undef, .one .undef, .one .undef, .one .undef, .one .undef, .one .undef, .one .undef, .one .undef, .one .undef, .one .undef, .one .undef, .one .undef]
def L16_1_b : List (List SC) := [[], [], [], [], [], [], [], [], [], [], [], [], [], [], [], [], [], [], [], [], [], [], [], [], [], [], [], [], [], [], [], [], [], [], [], [], [], [], [], [], [], [], [], [], [], [], [], [], [], [], [], [], [], [], [], [], [], []]
def L16_1_m (k : Nat) (κ : Res → Option Res) (lf : LoopF) : LoopF := fun p σ K => if pathEq p [true, true, true, false, true, false] = true then (if okSt 58 L16_1_s L16_1_b σ = true then L16_1 k (fun x => κ ((.bool x, []) : Res)) (stringOf (nth σ.slots 0)) (intOf (nth σ.slots 42)) (intOf (nth σ.slots 43)) (fun v => K (.exit 2) ⟨58, [.str (stringOf (nth σ.slots 0)), .undef, .undef, .undef, .undef, .undef, .undef, .undef, .undef, .undef, .undef, .undef, .undef, .undef, .undef, .undef, .undef, .undef, .undef, .undef, .undef, .undef, .undef, .undef, .undef, .undef, .undef, .undef, .undef, .undef, .undef, .undef, .undef, .undef, .undef, .undef, .undef, .undef, .undef, .undef, .undef, .undef, .int .i64 (intOf (nth σ.slots 42)), .int .i64 v, .undef, .undef, .undef, .undef, .undef, .undef, .undef, .undef, .undef, .undef, .undef, .undef, .undef, .undef], [[], [], [], [], [], [], [], [], [], [], [], [], [], [], [], [], [], [], [], [], [], [], [], [], [], [], [], [], [], [], [], [], [], [], [], [], [], [], [], [], [], [], [], [], [], [], [], [], [], [], [], [], [], [], [], [], [], []]⟩) else lf p σ K) else lf p σ K
theorem L16_1_d (k : Nat) (κ : Res → Option Res) (h : ∀ (p0 : ByteArray) (p1 : Int) (p2 : Int) (K : Cont), (ev Try.prog cfg k).loop 16 0 κ [true, true, true, false, true, false] ⟨58, [.str p0, .undef, .undef, .undef, .undef, .undef, .undef, .undef, .undef, .undef, .undef, .undef, .undef, .undef, .undef, .undef, .undef, .undef, .undef, .undef, .undef, .undef, .undef, .undef, .undef, .undef, .undef, .undef, .undef, .undef, .undef, .undef, .undef, .undef, .undef, .undef, .undef, .undef, .undef, .undef, .undef, .undef, .int .i64 p1, .int .i64 p2, .undef, .undef, .undef, .undef, .undef, .undef, .undef, .undef, .undef, .undef, .undef, .undef, .undef, .undef], [[], [], [], [], [], [], [], [], [], [], [], [], [], [], [], [], [], [], [], [], [], [], [], [], [], [], [], [], [], [], [], [], [], [], [], [], [], [], [], [], [], [], [], [], [], [], [], [], [], [], [], [], [], [], [], [], [], []]⟩ K = L16_1 k (fun x => κ ((.bool x, []) : Res)) p0 p1 p2 (fun v => K (.exit 2) ⟨58, [.str p0, .undef, .undef, .undef, .undef, .undef, .undef, .undef, .undef, .undef, .undef, .undef, .undef, .undef, .undef, .undef, .undef, .undef, .undef, .undef, .undef, .undef, .undef, .undef, .undef, .undef, .undef, .undef, .undef, .undef, .undef, .undef, .undef, .undef, .undef, .undef, .undef, .undef, .undef, .undef, .undef, .undef, .int .i64 p1, .int .i64 v, .undef, .undef, .undef, .undef, .undef, .undef, .undef, .undef, .undef, .undef, .undef, .undef, .undef, .undef], [[], [], [], [], [], [], [], [], [], [], [], [], [], [], [], [], [], [], [], [], [], [], [], [], [], [], [], [], [], [], [], [], [], [], [], [], [], [], [], [], [], [], [], [], [], [], [], [], [], [], [], [], [], [], [], [], [], []]⟩)) : L16_1_m k κ ((ev Try.prog cfg k).loop 16 0 κ) = (ev Try.prog cfg k).loop 16 0 κ := by
  funext p σ K
  unfold L16_1_m
  split
  · rename_i hp
    split
    · rename_i hs
      have e : mkSt 58 L16_1_s L16_1_b σ = ⟨58, [.str (stringOf (nth σ.slots 0)), .undef, .undef, .undef, .undef, .undef, .undef, .undef, .undef, .undef, .undef, .undef, .undef, .undef, .undef, .undef, .undef, .undef, .undef, .undef, .undef, .undef, .undef, .undef, .undef, .undef, .undef, .undef, .undef, .undef, .undef, .undef, .undef, .undef, .undef, .undef, .undef, .undef, .undef, .undef, .undef, .undef, .int .i64 (intOf (nth σ.slots 42)), .int .i64 (intOf (nth σ.slots 43)), .undef, .undef, .undef, .undef, .undef, .undef, .undef, .undef, .undef, .undef, .undef, .undef, .undef, .undef], [[], [], [], [], [], [], [], [], [], [], [], [], [], [], [], [], [], [], [], [], [], [], [], [], [], [], [], [], [], [], [], [], [], [], [], [], [], [], [], [], [], [], [], [], [], [], [], [], [], [], [], [], [], [], [], [], [], []]⟩ := by kernel_rfl
      rw [pathEq_eq hp]
      exact (h (stringOf (nth σ.slots 0)) (intOf (nth σ.slots 42)) (intOf (nth σ.slots 43)) K).symm.trans (congrArg (fun s => (ev Try.prog cfg k).loop 16 0 κ [true, true, true, false, true, false] s K) (e.symm.trans (okSt_eq hs).symm))
    · rfl
  · rfl
theorem L16_1_ev : ∀ (k : Nat) (κ : Res → Option Res) (p0 : ByteArray) (p1 : Int) (p2 : Int) (K : Cont), (ev Try.prog cfg k).loop 16 0 κ [true, true, true, false, true, false] ⟨58, [.str p0, .undef, .undef, .undef, .undef, .undef, .undef, .undef, .undef, .undef, .undef, .undef, .undef, .undef, .undef, .undef, .undef, .undef, .undef, .undef, .undef, .undef, .undef, .undef, .undef, .undef, .undef, .undef, .undef, .undef, .undef, .undef, .undef, .undef, .undef, .undef, .undef, .undef, .undef, .undef, .undef, .undef, .int .i64 p1, .int .i64 p2, .undef, .undef, .undef, .undef, .undef, .undef, .undef, .undef, .undef, .undef, .undef, .undef, .undef, .undef], [[], [], [], [], [], [], [], [], [], [], [], [], [], [], [], [], [], [], [], [], [], [], [], [], [], [], [], [], [], [], [], [], [], [], [], [], [], [], [], [], [], [], [], [], [], [], [], [], [], [], [], [], [], [], [], [], [], []]⟩ K = L16_1 k (fun x => κ ((.bool x, []) : Res)) p0 p1 p2 (fun v => K (.exit 2) ⟨58, [.str p0, .undef, .undef, .undef, .undef, .undef, .undef, .undef, .undef, .undef, .undef, .undef, .undef, .undef, .undef, .undef, .undef, .undef, .undef, .undef, .undef, .undef, .undef, .undef, .undef, .undef, .undef, .undef, .undef, .undef, .undef, .undef, .undef, .undef, .undef, .undef, .undef, .undef, .undef, .undef, .undef, .undef, .int .i64 p1, .int .i64 v, .undef, .undef, .undef, .undef, .undef, .undef, .undef, .undef, .undef, .undef, .undef, .undef, .undef, .undef], [[], [], [], [], [], [], [], [], [], [], [], [], [], [], [], [], [], [], [], [], [], [], [], [], [], [], [], [], [], [], [], [], [], [], [], [], [], [], [], [], [], [], [], [], [], [], [], [], [], [], [], [], [], [], [], [], [], []]⟩) := by
  intro k κ
  induction k with
  | zero => intro p0 p1 p2 K; rfl
  | succ k ih =>
    intro p0 p1 p2 K
    rw [ev_loop, ← L16_1_d k κ ih]
    kernel_rfl
def L16_0 : Nat → (Bool → Option Res) → ByteArray → Int → Int → (Int → Option Res) → Option Res
  | 0, _, _, _, _, _ => none
  | k + 1, κ, p0, p1, p2, K =>
  if decide (p2 < p1) = true then
   (if (decide ((0 : Int) ≤ p2) && decide (p2 < (p0.size : Int))) = true then
    (F79 k (byteAt p0 p2) fun x2 =>
    if (!x2) = true then
     (if decide ((byteAt p0 p2) < (48 : Int)) = true then
      (κ false)
     else
      (if decide ((byteAt p0 p2) > (57 : Int)) = true then
       (κ false)
      else
       (L16_0 k κ p0 p1 (IntKind.wrap .i64 (p2 + (1 : Int))) K)))
    else
     (L16_0 k κ p0 p1 (IntKind.wrap .i64 (p2 + (1 : Int))) K))
   else
    (none))
  else
   (K p2)
def L16_0_s : List SC := [.one .str, .one .undef, .one .undef, .one .undef, .one .undef, .one .undef, .one .undef, .one .undef, .one .undef, .one .undef, .one .undef, .one .undef, .one .undef, .one .undef, .one .undef, .one .undef, .one .undef, .one .undef, .one .undef, .one .undef, .one (.int .i64), .one (.int .i64), .one .undef, .one .undef, .one .undef, .one .undef, .one .undef, .one .undef, .one .undef, .one .undef, .one .undef, .one .undef, .one .undef, .one .undef, .one .undef, .one .undef, .one .undef, .one .undef, .one .undef, .one .undef, .one .undef, .one .undef, .one .undef, .one .undef, .one .undef, .one .undef, .one .undef, .one .undef, .one .undef, .one .undef, .one .undef, .one .undef, .one .undef, .one .undef, .one .undef, .one .undef, .one .undef, .one .undef]
def L16_0_b : List (List SC) := [[], [], [], [], [], [], [], [], [], [], [], [], [], [], [], [], [], [], [], [], [], [], [], [], [], [], [], [], [], [], [], [], [], [], [], [], [], [], [], [], [], [], [], [], [], [], [], [], [], [], [], [], [], [], [], [], [], []]
def L16_0_m (k : Nat) (κ : Res → Option Res) (lf : LoopF) : LoopF := fun p σ K => if pathEq p [true, true, false, true, false] = true then (if okSt 58 L16_0_s L16_0_b σ = true then L16_0 k (fun x => κ ((.bool x, []) : Res)) (stringOf (nth σ.slots 0)) (intOf (nth σ.slots 20)) (intOf (nth σ.slots 21)) (fun v => K (.exit 0) ⟨58, [.str (stringOf (nth σ.slots 0)), .undef, .undef, .undef, .undef, .undef, .undef, .undef, .undef, .undef, .undef, .undef, .undef, .undef, .undef, .undef, .undef, .undef, .undef, .undef, .int .i64 (intOf (nth σ.slots 20)), .int .i64 v, .undef, .undef, .undef, .undef, .undef, .undef, .undef, .undef, .undef, .undef, .undef, .undef, .undef, .undef, .undef, .undef, .undef, .undef, .undef, .undef, .undef, .undef, .undef, .undef, .undef, .undef, .undef, .undef, .undef, .undef, .undef, .undef, .undef, .undef, .undef, .undef], [[], [], [], [], [], [], [], [], [], [], [], [], [], [], [], [], [], [], [], [], [], [], [], [], [], [], [], [], [], [], [], [], [], [], [], [], [], [], [], [], [], [], [], [], [], [], [], [], [], [], [], [], [], [], [], [], [], []]⟩) else lf p σ K) else lf p σ K
theorem L16_0_d (k : Nat) (κ : Res → Option Res) (h : ∀ (p0 : ByteArray) (p1 : Int) (p2 : Int) (K : Cont), (ev Try.prog cfg k).loop 16 0 κ [true, true, false, true, false] ⟨58, [.str p0, .undef, .undef, .undef, .undef, .undef, .undef, .undef, .undef, .undef, .undef, .undef, .undef, .undef, .undef, .undef, .undef, .undef, .undef, .undef, .int .i64 p1, .int .i64 p2, .undef, .undef, .undef, .undef, .undef, .undef, .undef, .undef, .undef, .undef, .undef, .undef, .undef, .undef, .undef, .undef, .undef, .undef, .undef, .undef, .undef, .undef, .undef, .undef, .undef, .undef, .undef, .undef, .undef, .undef, .undef, .undef, .undef, .undef, .undef, .undef], [[], [], [], [], [], [], [], [], [], [], [], [], [], [], [], [], [], [], [], [], [], [], [], [], [], [], [], [], [], [], [], [], [], [], [], [], [], [], [], [], [], [], [], [], [], [], [], [], [], [], [], [], [], [], [], [], [], []]⟩ K = L16_0 k (fun x => κ ((.bool x, []) : Res)) p0 p1 p2 (fun v => K (.exit 0) ⟨58, [.str p0, .undef, .undef, .undef, .undef, .undef, .undef, .undef, .undef, .undef, .undef, .undef, .undef, .undef, .undef, .undef, .undef, .undef, .undef, .undef, .int .i64 p1, .int .i64 v, .undef, .undef, .undef, .undef, .undef, .undef, .undef, .undef, .undef, .undef, .undef, .undef, .undef, .undef, .undef, .undef, .undef, .undef, .undef, .undef, .undef, .undef, .undef, .undef, .undef, .undef, .undef, .undef, .undef, .undef, .undef, .undef, .undef, .undef, .undef, .undef], [[], [], [], [], [], [], [], [], [], [], [], [], [], [], [], [], [], [], [], [], [], [], [], [], [], [], [], [], [], [], [], [], [], [], [], [], [], [], [], [], [], [], [], [], [], [], [], [], [], [], [], [], [], [], [], [], [], []]⟩)) : L16_0_m k κ ((ev Try.prog cfg k).loop 16 0 κ) = (ev Try.prog cfg k).loop 16 0 κ := by
  funext p σ K
  unfold L16_0_m
  split
  · rename_i hp
    split
    · rename_i hs
      have e : mkSt 58 L16_0_s L16_0_b σ = ⟨58, [.str (stringOf (nth σ.slots 0)), .undef, .undef, .undef, .undef, .undef, .undef, .undef, .undef, .undef, .undef, .undef, .undef, .undef, .undef, .undef, .undef, .undef, .undef, .undef, .int .i64 (intOf (nth σ.slots 20)), .int .i64 (intOf (nth σ.slots 21)), .undef, .undef, .undef, .undef, .undef, .undef, .undef, .undef, .undef, .undef, .undef, .undef, .undef, .undef, .undef, .undef, .undef, .undef, .undef, .undef, .undef, .undef, .undef, .undef, .undef, .undef, .undef, .undef, .undef, .undef, .undef, .undef, .undef, .undef, .undef, .undef], [[], [], [], [], [], [], [], [], [], [], [], [], [], [], [], [], [], [], [], [], [], [], [], [], [], [], [], [], [], [], [], [], [], [], [], [], [], [], [], [], [], [], [], [], [], [], [], [], [], [], [], [], [], [], [], [], [], []]⟩ := by kernel_rfl
      rw [pathEq_eq hp]
      exact (h (stringOf (nth σ.slots 0)) (intOf (nth σ.slots 20)) (intOf (nth σ.slots 21)) K).symm.trans (congrArg (fun s => (ev Try.prog cfg k).loop 16 0 κ [true, true, false, true, false] s K) (e.symm.trans (okSt_eq hs).symm))
    · rfl
  · rfl
theorem L16_0_ev : ∀ (k : Nat) (κ : Res → Option Res) (p0 : ByteArray) (p1 : Int) (p2 : Int) (K : Cont), (ev Try.prog cfg k).loop 16 0 κ [true, true, false, true, false] ⟨58, [.str p0, .undef, .undef, .undef, .undef, .undef, .undef, .undef, .undef, .undef, .undef, .undef, .undef, .undef, .undef, .undef, .undef, .undef, .undef, .undef, .int .i64 p1, .int .i64 p2, .undef, .undef, .undef, .undef, .undef, .undef, .undef, .undef, .undef, .undef, .undef, .undef, .undef, .undef, .undef, .undef, .undef, .undef, .undef, .undef, .undef, .undef, .undef, .undef, .undef, .undef, .undef, .undef, .undef, .undef, .undef, .undef, .undef, .undef, .undef, .undef], [[], [], [], [], [], [], [], [], [], [], [], [], [], [], [], [], [], [], [], [], [], [], [], [], [], [], [], [], [], [], [], [], [], [], [], [], [], [], [], [], [], [], [], [], [], [], [], [], [], [], [], [], [], [], [], [], [], []]⟩ K = L16_0 k (fun x => κ ((.bool x, []) : Res)) p0 p1 p2 (fun v => K (.exit 0) ⟨58, [.str p0, .undef, .undef, .undef, .undef, .undef, .undef, .undef, .undef, .undef, .undef, .undef, .undef, .undef, .undef, .undef, .undef, .undef, .undef, .undef, .int .i64 p1, .int .i64 v, .undef, .undef, .undef, .undef, .undef, .undef, .undef, .undef, .undef, .undef, .undef, .undef, .undef, .undef, .undef, .undef, .undef, .undef, .undef, .undef, .undef, .undef, .undef, .undef, .undef, .undef, .undef, .undef, .undef, .undef, .undef, .undef, .undef, .undef, .undef, .undef], [[], [], [], [], [], [], [], [], [], [], [], [], [], [], [], [], [], [], [], [], [], [], [], [], [], [], [], [], [], [], [], [], [], [], [], [], [], [], [], [], [], [], [], [], [], [], [], [], [], [], [], [], [], [], [], [], [], []]⟩) := by
  intro k κ
  induction k with
  | zero => intro p0 p1 p2 K; rfl
  | succ k ih =>
    intro p0 p1 p2 K
    rw [ev_loop, ← F79_d k (F79_ev k), ← L16_0_d k κ ih]
    kernel_rfl
/-- lamplighter/schema.Name -/
def F16 : Nat → ByteArray → (Bool → Option Res) → Option Res
  | 0, _, _ => none
  | k + 1, a0, κ =>
  if (a0.toList == (⟨#[]⟩ : ByteArray).toList) = true then
   (κ false)
  else
   (if decide ((a0.size : Int) > (16 : Int)) = true then
    (κ false)
   else
    (if decide ((0 : Int) < (a0.size : Int)) = true then
     (F79 k (byteAt a0 (0 : Int)) fun x1 =>
     if (!x1) = true then
      (κ false)
     else
      (L16_0 k κ a0 (a0.size : Int) (0 : Int) fun v3 =>
      L16_1 k κ a0 (IntKind.wrap .i64 ((IntKind.wrap .i64 ((44 : Int) - (a0.size : Int))) - (1 : Int))) (0 : Int) fun v4 =>
      κ true))
    else
     (none)))
def F16_s : List SC := [.one .str]
def F16_b : List (List SC) := []
def F16_m (k : Nat) (cf : CallF) : CallF := fun f args lent κ => if Nat.beq f 16 = true then (if (okC F16_s args && okB F16_b lent) = true then F16 k (stringOf (nth args 0)) (fun x => κ ((.bool x, []) : Res)) else cf f args lent κ) else cf f args lent κ
theorem F16_d (k : Nat) (h : ∀ (a0 : ByteArray) (κ : Res → Option Res), (ev Try.prog cfg k).call 16 [.str a0] [] κ = F16 k a0 (fun x => κ ((.bool x, []) : Res))) : F16_m k (ev Try.prog cfg k).call = (ev Try.prog cfg k).call := by
  funext f args lent κ
  unfold F16_m
  split
  · rename_i hp
    split
    · rename_i hs
      rw [Bool.and_eq_true] at hs
      have e : mkC F16_s 0 args = [.str (stringOf (nth args 0))] := by kernel_rfl
      have e' : mkB F16_b 0 lent = [] := by kernel_rfl
      obtain rfl := Nat.eq_of_beq_eq_true hp
      exact (h (stringOf (nth args 0)) κ).symm.trans (cong2 (fun a l => (ev Try.prog cfg k).call 16 a l κ) (e.symm.trans (okC_eq hs.1).symm) (e'.symm.trans (okB_eq hs.2).symm))
    · rfl
  · rfl
theorem F16_ev : ∀ (k : Nat) (a0 : ByteArray) (κ : Res → Option Res), (ev Try.prog cfg k).call 16 [.str a0] [] κ = F16 k a0 (fun x => κ ((.bool x, []) : Res)) := by
  intro k
  induction k with
  | zero => intros; rfl
  | succ k ih =>
    intro a0 κ
    refine (ev_call' Try.prog cfg k 16 0 _ _ κ (by rfl)).trans ?_
    rw [← F79_d k (F79_ev k), ← L16_0_d k κ (L16_0_ev k κ), ← L16_1_d k κ (L16_1_ev k κ)]
    kernel_rfl
/-- lamplighter/schema.fields$1 -/
def F109 : Nat → (ByteArray × Int) → ByteArray → Int → (Bool × ByteArray × Int → Option Res) → Option Res
  | 0, _, _, _, _ => none
  | k + 1, a0, b0_0, b0_1, κ =>
  κ ((a0.1.toList == b0_0.toList), (b0_0, b0_1))
def F109_s : List SC := [.agg [.str, .int .i64], .one (.ref 0 0)]
def F109_b : List (List SC) := [[.one .str, .one (.int .i64)]]
def F109_m (k : Nat) (cf : CallF) : CallF := fun f args lent κ => if Nat.beq f 109 = true then (if (okC F109_s args && okB F109_b lent) = true then F109 k ((stringOf (nth (aggOf (nth args 0)) 0)), (intOf (nth (aggOf (nth args 0)) 1))) (stringOf (nth (nthB lent 0) 0)) (intOf (nth (nthB lent 0) 1)) (fun x => κ ((.bool x.1, [[.str x.2.1, .int .i64 x.2.2]]) : Res)) else cf f args lent κ) else cf f args lent κ
theorem F109_d (k : Nat) (h : ∀ (a0 : (ByteArray × Int)) (b0_0 : ByteArray) (b0_1 : Int) (κ : Res → Option Res), (ev Try.prog cfg k).call 109 [.agg [.str a0.1, .int .i64 a0.2], .ref 0 0] [[.str b0_0, .int .i64 b0_1]] κ = F109 k a0 b0_0 b0_1 (fun x => κ ((.bool x.1, [[.str x.2.1, .int .i64 x.2.2]]) : Res))) : F109_m k (ev Try.prog cfg k).call = (ev Try.prog cfg k).call := by
  funext f args lent κ
  unfold F109_m
  split
  · rename_i hp
    split
    · rename_i hs
      rw [Bool.and_eq_true] at hs
      have e : mkC F109_s 0 args = [.agg [.str (stringOf (nth (aggOf (nth args 0)) 0)), .int .i64 (intOf (nth (aggOf (nth args 0)) 1))], .ref 0 0] := by kernel_rfl
      have e' : mkB F109_b 0 lent = [[.str (stringOf (nth (nthB lent 0) 0)), .int .i64 (intOf (nth (nthB lent 0) 1))]] := by kernel_rfl
      obtain rfl := Nat.eq_of_beq_eq_true hp
      exact (h ((stringOf (nth (aggOf (nth args 0)) 0)), (intOf (nth (aggOf (nth args 0)) 1))) (stringOf (nth (nthB lent 0) 0)) (intOf (nth (nthB lent 0) 1)) κ).symm.trans (cong2 (fun a l => (ev Try.prog cfg k).call 109 a l κ) (e.symm.trans (okC_eq hs.1).symm) (e'.symm.trans (okB_eq hs.2).symm))
    · rfl
  · rfl
theorem F109_ev : ∀ (k : Nat) (a0 : (ByteArray × Int)) (b0_0 : ByteArray) (b0_1 : Int) (κ : Res → Option Res), (ev Try.prog cfg k).call 109 [.agg [.str a0.1, .int .i64 a0.2], .ref 0 0] [[.str b0_0, .int .i64 b0_1]] κ = F109 k a0 b0_0 b0_1 (fun x => κ ((.bool x.1, [[.str x.2.1, .int .i64 x.2.2]]) : Res)) := by
  intro k
  induction k with
  | zero => intros; rfl
  | succ k ih =>
    intro a0 b0_0 b0_1 κ
    refine (ev_call' Try.prog cfg k 109 1 _ _ κ (by rfl)).trans ?_
    skip
    kernel_rfl
def L121_0 : Nat → (Int × ByteArray × Int → Option Res) → (List (ByteArray × Int)) → Int → Int → ByteArray → Int → (Int × ByteArray × Int → Option Res) → Option Res
  | 0, _, _, _, _, _, _, _ => none
  | k + 1, κ, p0, p1, p2, p3, p4, K =>
  if decide (p2 < p1) = true then
   (if (decide ((0 : Int) ≤ p2) && decide (p2 < (p0.length : Int))) = true then
    (F109 k (p0.getD p2.toNat ((⟨#[]⟩ : ByteArray), (0 : Int))) p3 p4 fun x1 =>
    if x1.1 = true then
     (κ (p2, (x1.2.1, x1.2.2)))
    else
     (L121_0 k κ p0 p1 (IntKind.wrap .i64 (p2 + (1 : Int))) x1.2.1 x1.2.2 K))
   else
    (none))
  else
   (K (p2, (p3, p4)))
def L121_0_s : List SC := [.one (.list (.pair .str (.int .i64)) .no), .fn 109 [.ref 19 0], .one .undef, .one .undef, .one .undef, .one .undef, .one .undef, .one (.int .i64), .one (.int .i64), .one .undef, .one .undef, .one .undef, .one .undef, .one .undef, .one .undef, .one .undef, .one .undef, .one .undef, .one .undef]
def L121_0_b : List (List SC) := [[], [], [], [], [], [], [], [], [], [], [], [], [], [], [], [], [], [], [], [.one .str, .one (.int .i64)]]
def L121_0_m (k : Nat) (κ : Res → Option Res) (lf : LoopF) : LoopF := fun p σ K => if pathEq p [true, false, true, false] = true then (if okSt 19 L121_0_s L121_0_b σ = true then L121_0 k (fun x => κ ((.int .i64 x.1, [[.str x.2.1, .int .i64 x.2.2]]) : Res)) (listOf (.pair .str (.int .i64)) (nth σ.slots 0)) (intOf (nth σ.slots 7)) (intOf (nth σ.slots 8)) (stringOf (nth (nthB σ.boxes 19) 0)) (intOf (nth (nthB σ.boxes 19) 1)) (fun v => K (.exit 0) ⟨19, [.list (.pair .str (.int .i64)) (listOf (.pair .str (.int .i64)) (nth σ.slots 0)) .no, .fn 109 [.ref 19 0], .undef, .undef, .undef, .undef, .undef, .int .i64 (intOf (nth σ.slots 7)), .int .i64 v.1, .undef, .undef, .undef, .undef, .undef, .undef, .undef, .undef, .undef, .undef], [[], [], [], [], [], [], [], [], [], [], [], [], [], [], [], [], [], [], [], [.str v.2.1, .int .i64 v.2.2]]⟩) else lf p σ K) else lf p σ K
theorem L121_0_d (k : Nat) (κ : Res → Option Res) (h : ∀ (p0 : (List (ByteArray × Int))) (p1 : Int) (p2 : Int) (p3 : ByteArray) (p4 : Int) (K : Cont), (ev Try.prog cfg k).loop 121 1 κ [true, false, true, false] ⟨19, [.list (.pair .str (.int .i64)) p0 .no, .fn 109 [.ref 19 0], .undef, .undef, .undef, .undef, .undef, .int .i64 p1, .int .i64 p2, .undef, .undef, .undef, .undef, .undef, .undef, .undef, .undef, .undef, .undef], [[], [], [], [], [], [], [], [], [], [], [], [], [], [], [], [], [], [], [], [.str p3, .int .i64 p4]]⟩ K = L121_0 k (fun x => κ ((.int .i64 x.1, [[.str x.2.1, .int .i64 x.2.2]]) : Res)) p0 p1 p2 p3 p4 (fun v => K (.exit 0) ⟨19, [.list (.pair .str (.int .i64)) p0 .no, .fn 109 [.ref 19 0], .undef, .undef, .undef, .undef, .undef, .int .i64 p1, .int .i64 v.1, .undef, .undef, .undef, .undef, .undef, .undef, .undef, .undef, .undef, .undef], [[], [], [], [], [], [], [], [], [], [], [], [], [], [], [], [], [], [], [], [.str v.2.1, .int .i64 v.2.2]]⟩)) : L121_0_m k κ ((ev Try.prog cfg k).loop 121 1 κ) = (ev Try.prog cfg k).loop 121 1 κ := by
  funext p σ K
  unfold L121_0_m
  split
  · rename_i hp
    split
    · rename_i hs
      have e : mkSt 19 L121_0_s L121_0_b σ = ⟨19, [.list (.pair .str (.int .i64)) (listOf (.pair .str (.int .i64)) (nth σ.slots 0)) .no, .fn 109 [.ref 19 0], .undef, .undef, .undef, .undef, .undef, .int .i64 (intOf (nth σ.slots 7)), .int .i64 (intOf (nth σ.slots 8)), .undef, .undef, .undef, .undef, .undef, .undef, .undef, .undef, .undef, .undef], [[], [], [], [], [], [], [], [], [], [], [], [], [], [], [], [], [], [], [], [.str (stringOf (nth (nthB σ.boxes 19) 0)), .int .i64 (intOf (nth (nthB σ.boxes 19) 1))]]⟩ := by kernel_rfl
      rw [pathEq_eq hp]
      exact (h (listOf (.pair .str (.int .i64)) (nth σ.slots 0)) (intOf (nth σ.slots 7)) (intOf (nth σ.slots 8)) (stringOf (nth (nthB σ.boxes 19) 0)) (intOf (nth (nthB σ.boxes 19) 1)) K).symm.trans (congrArg (fun s => (ev Try.prog cfg k).loop 121 1 κ [true, false, true, false] s K) (e.symm.trans (okSt_eq hs).symm))
    · rfl
  · rfl
theorem L121_0_ev : ∀ (k : Nat) (κ : Res → Option Res) (p0 : (List (ByteArray × Int))) (p1 : Int) (p2 : Int) (p3 : ByteArray) (p4 : Int) (K : Cont), (ev Try.prog cfg k).loop 121 1 κ [true, false, true, false] ⟨19, [.list (.pair .str (.int .i64)) p0 .no, .fn 109 [.ref 19 0], .undef, .undef, .undef, .undef, .undef, .int .i64 p1, .int .i64 p2, .undef, .undef, .undef, .undef, .undef, .undef, .undef, .undef, .undef, .undef], [[], [], [], [], [], [], [], [], [], [], [], [], [], [], [], [], [], [], [], [.str p3, .int .i64 p4]]⟩ K = L121_0 k (fun x => κ ((.int .i64 x.1, [[.str x.2.1, .int .i64 x.2.2]]) : Res)) p0 p1 p2 p3 p4 (fun v => K (.exit 0) ⟨19, [.list (.pair .str (.int .i64)) p0 .no, .fn 109 [.ref 19 0], .undef, .undef, .undef, .undef, .undef, .int .i64 p1, .int .i64 v.1, .undef, .undef, .undef, .undef, .undef, .undef, .undef, .undef, .undef, .undef], [[], [], [], [], [], [], [], [], [], [], [], [], [], [], [], [], [], [], [], [.str v.2.1, .int .i64 v.2.2]]⟩) := by
  intro k κ
  induction k with
  | zero => intro p0 p1 p2 p3 p4 K; rfl
  | succ k ih =>
    intro p0 p1 p2 p3 p4 K
    rw [ev_loop, ← F109_d k (F109_ev k), ← L121_0_d k κ ih]
    kernel_rfl
/-- slices.IndexFunc[[]lamplighter/api.Field,lamplighter/api.Field] -/
def F121 : Nat → (List (ByteArray × Int)) → ByteArray → Int → (Int × ByteArray × Int → Option Res) → Option Res
  | 0, _, _, _, _ => none
  | k + 1, a0, b0_0, b0_1, κ =>
  L121_0 k κ a0 (a0.length : Int) (0 : Int) b0_0 b0_1 fun v2 =>
  κ ((-1 : Int), (v2.2.1, v2.2.2))
def F121_s : List SC := [.one (.list (.pair .str (.int .i64)) .no), .fn 109 [.ref 0 0]]
def F121_b : List (List SC) := [[.one .str, .one (.int .i64)]]
def F121_m (k : Nat) (cf : CallF) : CallF := fun f args lent κ => if Nat.beq f 121 = true then (if (okC F121_s args && okB F121_b lent) = true then F121 k (listOf (.pair .str (.int .i64)) (nth args 0)) (stringOf (nth (nthB lent 0) 0)) (intOf (nth (nthB lent 0) 1)) (fun x => κ ((.int .i64 x.1, [[.str x.2.1, .int .i64 x.2.2]]) : Res)) else cf f args lent κ) else cf f args lent κ
theorem F121_d (k : Nat) (h : ∀ (a0 : (List (ByteArray × Int))) (b0_0 : ByteArray) (b0_1 : Int) (κ : Res → Option Res), (ev Try.prog cfg k).call 121 [.list (.pair .str (.int .i64)) a0 .no, .fn 109 [.ref 0 0]] [[.str b0_0, .int .i64 b0_1]] κ = F121 k a0 b0_0 b0_1 (fun x => κ ((.int .i64 x.1, [[.str x.2.1, .int .i64 x.2.2]]) : Res))) : F121_m k (ev Try.prog cfg k).call = (ev Try.prog cfg k).call := by
  funext f args lent κ
  unfold F121_m
  split
  · rename_i hp
    split
    · rename_i hs
      rw [Bool.and_eq_true] at hs
      have e : mkC F121_s 0 args = [.list (.pair .str (.int .i64)) (listOf (.pair .str (.int .i64)) (nth args 0)) .no, .fn 109 [.ref 0 0]] := by kernel_rfl
      have e' : mkB F121_b 0 lent = [[.str (stringOf (nth (nthB lent 0) 0)), .int .i64 (intOf (nth (nthB lent 0) 1))]] := by kernel_rfl
      obtain rfl := Nat.eq_of_beq_eq_true hp
      exact (h (listOf (.pair .str (.int .i64)) (nth args 0)) (stringOf (nth (nthB lent 0) 0)) (intOf (nth (nthB lent 0) 1)) κ).symm.trans (cong2 (fun a l => (ev Try.prog cfg k).call 121 a l κ) (e.symm.trans (okC_eq hs.1).symm) (e'.symm.trans (okB_eq hs.2).symm))
    · rfl
  · rfl
theorem F121_ev : ∀ (k : Nat) (a0 : (List (ByteArray × Int))) (b0_0 : ByteArray) (b0_1 : Int) (κ : Res → Option Res), (ev Try.prog cfg k).call 121 [.list (.pair .str (.int .i64)) a0 .no, .fn 109 [.ref 0 0]] [[.str b0_0, .int .i64 b0_1]] κ = F121 k a0 b0_0 b0_1 (fun x => κ ((.int .i64 x.1, [[.str x.2.1, .int .i64 x.2.2]]) : Res)) := by
  intro k
  induction k with
  | zero => intros; rfl
  | succ k ih =>
    intro a0 b0_0 b0_1 κ
    refine (ev_call' Try.prog cfg k 121 1 _ _ κ (by rfl)).trans ?_
    rw [← F109_d k (F109_ev k), ← L121_0_d k κ (L121_0_ev k κ)]
    kernel_rfl
/-- slices.ContainsFunc[[]lamplighter/api.Field,lamplighter/api.Field] -/
def F108 : Nat → (List (ByteArray × Int)) → ByteArray → Int → (Bool × ByteArray × Int → Option Res) → Option Res
  | 0, _, _, _, _ => none
  | k + 1, a0, b0_0, b0_1, κ =>
  F121 k a0 b0_0 b0_1 fun x1 =>
  κ (decide (x1.1 ≥ (0 : Int)), (x1.2.1, x1.2.2))
def F108_s : List SC := [.one (.list (.pair .str (.int .i64)) .no), .fn 109 [.ref 0 0]]
def F108_b : List (List SC) := [[.one .str, .one (.int .i64)]]
def F108_m (k : Nat) (cf : CallF) : CallF := fun f args lent κ => if Nat.beq f 108 = true then (if (okC F108_s args && okB F108_b lent) = true then F108 k (listOf (.pair .str (.int .i64)) (nth args 0)) (stringOf (nth (nthB lent 0) 0)) (intOf (nth (nthB lent 0) 1)) (fun x => κ ((.bool x.1, [[.str x.2.1, .int .i64 x.2.2]]) : Res)) else cf f args lent κ) else cf f args lent κ
theorem F108_d (k : Nat) (h : ∀ (a0 : (List (ByteArray × Int))) (b0_0 : ByteArray) (b0_1 : Int) (κ : Res → Option Res), (ev Try.prog cfg k).call 108 [.list (.pair .str (.int .i64)) a0 .no, .fn 109 [.ref 0 0]] [[.str b0_0, .int .i64 b0_1]] κ = F108 k a0 b0_0 b0_1 (fun x => κ ((.bool x.1, [[.str x.2.1, .int .i64 x.2.2]]) : Res))) : F108_m k (ev Try.prog cfg k).call = (ev Try.prog cfg k).call := by
  funext f args lent κ
  unfold F108_m
  split
  · rename_i hp
    split
    · rename_i hs
      rw [Bool.and_eq_true] at hs
      have e : mkC F108_s 0 args = [.list (.pair .str (.int .i64)) (listOf (.pair .str (.int .i64)) (nth args 0)) .no, .fn 109 [.ref 0 0]] := by kernel_rfl
      have e' : mkB F108_b 0 lent = [[.str (stringOf (nth (nthB lent 0) 0)), .int .i64 (intOf (nth (nthB lent 0) 1))]] := by kernel_rfl
      obtain rfl := Nat.eq_of_beq_eq_true hp
      exact (h (listOf (.pair .str (.int .i64)) (nth args 0)) (stringOf (nth (nthB lent 0) 0)) (intOf (nth (nthB lent 0) 1)) κ).symm.trans (cong2 (fun a l => (ev Try.prog cfg k).call 108 a l κ) (e.symm.trans (okC_eq hs.1).symm) (e'.symm.trans (okB_eq hs.2).symm))
    · rfl
  · rfl
theorem F108_ev : ∀ (k : Nat) (a0 : (List (ByteArray × Int))) (b0_0 : ByteArray) (b0_1 : Int) (κ : Res → Option Res), (ev Try.prog cfg k).call 108 [.list (.pair .str (.int .i64)) a0 .no, .fn 109 [.ref 0 0]] [[.str b0_0, .int .i64 b0_1]] κ = F108 k a0 b0_0 b0_1 (fun x => κ ((.bool x.1, [[.str x.2.1, .int .i64 x.2.2]]) : Res)) := by
  intro k
  induction k with
  | zero => intros; rfl
  | succ k ih =>
    intro a0 b0_0 b0_1 κ
    refine (ev_call' Try.prog cfg k 108 1 _ _ κ (by rfl)).trans ?_
    rw [← F121_d k (F121_ev k)]
    kernel_rfl
def L80_0 : Nat → (Bool → Option Res) → (List (ByteArray × Int)) → (List (ByteArray × Int)) → Int → Int → (Int → Option Res) → Option Res
  | 0, _, _, _, _, _, _ => none
  | k + 1, κ, p0, p1, p2, p3, K =>
  if decide (p3 < p2) = true then
   (if (decide ((0 : Int) ≤ p3) && decide (p3 < (p1.length : Int))) = true then
    (F16 k ((p1.getD p3.toNat ((⟨#[]⟩ : ByteArray), (0 : Int))).1) fun x1 =>
    if (!x1) = true then
     (κ false)
    else
     (if decide (((p1.getD p3.toNat ((⟨#[]⟩ : ByteArray), (0 : Int))).2) < (1 : Int)) = true then
      (κ false)
     else
      (if decide (((p1.getD p3.toNat ((⟨#[]⟩ : ByteArray), (0 : Int))).2) > (3 : Int)) = true then
       (κ false)
      else
       (if (decide ((0 : Int) ≤ p3) && decide (p3 ≤ (p0.length : Int))) = true then
        (F108 k ((p0.take p3.toNat).drop (0 : Int).toNat) ((p1.getD p3.toNat ((⟨#[]⟩ : ByteArray), (0 : Int))).1) ((p1.getD p3.toNat ((⟨#[]⟩ : ByteArray), (0 : Int))).2) fun x2 =>
        if x2.1 = true then
         (κ false)
        else
         (L80_0 k κ p0 p1 p2 (IntKind.wrap .i64 (p3 + (1 : Int))) K))
       else
        (none)))))
   else
    (none))
  else
   (K p3)
def L80_0_s : List SC := [.one (.list (.pair .str (.int .i64)) .no), .one .undef, .one .undef, .one .undef, .one .undef, .one .undef, .one .undef, .one .undef, .one (.list (.pair .str (.int .i64)) .no), .one (.int .i64), .one (.int .i64), .one .undef, .one .undef, .one .undef, .one .undef, .one .undef, .one .undef, .one .undef, .one .undef, .one .undef, .one .undef, .one .undef, .one .undef, .one .undef, .one .undef, .one .undef, .one .undef, .one .undef, .one .undef, .one .undef, .one .undef, .one .undef, .one .undef, .one .undef, .one .undef]
def L80_0_b : List (List SC) := [[], [], [], [], [], [], [], [], [], [], [], [], [], [], [], [], [], [], [], [], [], [], [], [], [], [], [], [], [], [], [], [], [], [], []]
def L80_0_m (k : Nat) (κ : Res → Option Res) (lf : LoopF) : LoopF := fun p σ K => if pathEq p [true, true, false, true, false] = true then (if okSt 35 L80_0_s L80_0_b σ = true then L80_0 k (fun x => κ ((.bool x, []) : Res)) (listOf (.pair .str (.int .i64)) (nth σ.slots 0)) (listOf (.pair .str (.int .i64)) (nth σ.slots 8)) (intOf (nth σ.slots 9)) (intOf (nth σ.slots 10)) (fun v => K (.exit 0) ⟨35, [.list (.pair .str (.int .i64)) (listOf (.pair .str (.int .i64)) (nth σ.slots 0)) .no, .undef, .undef, .undef, .undef, .undef, .undef, .undef, .list (.pair .str (.int .i64)) (listOf (.pair .str (.int .i64)) (nth σ.slots 8)) .no, .int .i64 (intOf (nth σ.slots 9)), .int .i64 v, .undef, .undef, .undef, .undef, .undef, .undef, .undef, .undef, .undef, .undef, .undef, .undef, .undef, .undef, .undef, .undef, .undef, .undef, .undef, .undef, .undef, .undef, .undef, .undef], [[], [], [], [], [], [], [], [], [], [], [], [], [], [], [], [], [], [], [], [], [], [], [], [], [], [], [], [], [], [], [], [], [], [], []]⟩) else lf p σ K) else lf p σ K
theorem L80_0_d (k : Nat) (κ : Res → Option Res) (h : ∀ (p0 : (List (ByteArray × Int))) (p1 : (List (ByteArray × Int))) (p2 : Int) (p3 : Int) (K : Cont), (ev Try.prog cfg k).loop 80 0 κ [true, true, false, true, false] ⟨35, [.list (.pair .str (.int .i64)) p0 .no, .undef, .undef, .undef, .undef, .undef, .undef, .undef, .list (.pair .str (.int .i64)) p1 .no, .int .i64 p2, .int .i64 p3, .undef, .undef, .undef, .undef, .undef, .undef, .undef, .undef, .undef, .undef, .undef, .undef, .undef, .undef, .undef, .undef, .undef, .undef, .undef, .undef, .undef, .undef, .undef, .undef], [[], [], [], [], [], [], [], [], [], [], [], [], [], [], [], [], [], [], [], [], [], [], [], [], [], [], [], [], [], [], [], [], [], [], []]⟩ K = L80_0 k (fun x => κ ((.bool x, []) : Res)) p0 p1 p2 p3 (fun v => K (.exit 0) ⟨35, [.list (.pair .str (.int .i64)) p0 .no, .undef, .undef, .undef, .undef, .undef, .undef, .undef, .list (.pair .str (.int .i64)) p1 .no, .int .i64 p2, .int .i64 v, .undef, .undef, .undef, .undef, .undef, .undef, .undef, .undef, .undef, .undef, .undef, .undef, .undef, .undef, .undef, .undef, .undef, .undef, .undef, .undef, .undef, .undef, .undef, .undef], [[], [], [], [], [], [], [], [], [], [], [], [], [], [], [], [], [], [], [], [], [], [], [], [], [], [], [], [], [], [], [], [], [], [], []]⟩)) : L80_0_m k κ ((ev Try.prog cfg k).loop 80 0 κ) = (ev Try.prog cfg k).loop 80 0 κ := by
  funext p σ K
  unfold L80_0_m
  split
  · rename_i hp
    split
    · rename_i hs
      have e : mkSt 35 L80_0_s L80_0_b σ = ⟨35, [.list (.pair .str (.int .i64)) (listOf (.pair .str (.int .i64)) (nth σ.slots 0)) .no, .undef, .undef, .undef, .undef, .undef, .undef, .undef, .list (.pair .str (.int .i64)) (listOf (.pair .str (.int .i64)) (nth σ.slots 8)) .no, .int .i64 (intOf (nth σ.slots 9)), .int .i64 (intOf (nth σ.slots 10)), .undef, .undef, .undef, .undef, .undef, .undef, .undef, .undef, .undef, .undef, .undef, .undef, .undef, .undef, .undef, .undef, .undef, .undef, .undef, .undef, .undef, .undef, .undef, .undef], [[], [], [], [], [], [], [], [], [], [], [], [], [], [], [], [], [], [], [], [], [], [], [], [], [], [], [], [], [], [], [], [], [], [], []]⟩ := by kernel_rfl
      rw [pathEq_eq hp]
      exact (h (listOf (.pair .str (.int .i64)) (nth σ.slots 0)) (listOf (.pair .str (.int .i64)) (nth σ.slots 8)) (intOf (nth σ.slots 9)) (intOf (nth σ.slots 10)) K).symm.trans (congrArg (fun s => (ev Try.prog cfg k).loop 80 0 κ [true, true, false, true, false] s K) (e.symm.trans (okSt_eq hs).symm))
    · rfl
  · rfl
theorem L80_0_ev : ∀ (k : Nat) (κ : Res → Option Res) (p0 : (List (ByteArray × Int))) (p1 : (List (ByteArray × Int))) (p2 : Int) (p3 : Int) (K : Cont), (ev Try.prog cfg k).loop 80 0 κ [true, true, false, true, false] ⟨35, [.list (.pair .str (.int .i64)) p0 .no, .undef, .undef, .undef, .undef, .undef, .undef, .undef, .list (.pair .str (.int .i64)) p1 .no, .int .i64 p2, .int .i64 p3, .undef, .undef, .undef, .undef, .undef, .undef, .undef, .undef, .undef, .undef, .undef, .undef, .undef, .undef, .undef, .undef, .undef, .undef, .undef, .undef, .undef, .undef, .undef, .undef], [[], [], [], [], [], [], [], [], [], [], [], [], [], [], [], [], [], [], [], [], [], [], [], [], [], [], [], [], [], [], [], [], [], [], []]⟩ K = L80_0 k (fun x => κ ((.bool x, []) : Res)) p0 p1 p2 p3 (fun v => K (.exit 0) ⟨35, [.list (.pair .str (.int .i64)) p0 .no, .undef, .undef, .undef, .undef, .undef, .undef, .undef, .list (.pair .str (.int .i64)) p1 .no, .int .i64 p2, .int .i64 v, .undef, .undef, .undef, .undef, .undef, .undef, .undef, .undef, .undef, .undef, .undef, .undef, .undef, .undef, .undef, .undef, .undef, .undef, .undef, .undef, .undef, .undef, .undef, .undef], [[], [], [], [], [], [], [], [], [], [], [], [], [], [], [], [], [], [], [], [], [], [], [], [], [], [], [], [], [], [], [], [], [], [], []]⟩) := by
  intro k κ
  induction k with
  | zero => intro p0 p1 p2 p3 K; rfl
  | succ k ih =>
    intro p0 p1 p2 p3 K
    rw [ev_loop, ← F16_d k (F16_ev k), ← F108_d k (F108_ev k), ← L80_0_d k κ ih]
    kernel_rfl
/-- lamplighter/schema.fields -/
def F80 : Nat → (List (ByteArray × Int)) → (Bool → Option Res) → Option Res
  | 0, _, _ => none
  | k + 1, a0, κ =>
  if decide ((a0.length : Int) > (8 : Int)) = true then
   (κ false)
  else
   (L80_0 k κ a0 a0 (a0.length : Int) (0 : Int) fun v3 =>
   κ true)
def F80_s : List SC := [.one (.list (.pair .str (.int .i64)) .no)]
def F80_b : List (List SC) := []
def F80_m (k : Nat) (cf : CallF) : CallF := fun f args lent κ => if Nat.beq f 80 = true then (if (okC F80_s args && okB F80_b lent) = true then F80 k (listOf (.pair .str (.int .i64)) (nth args 0)) (fun x => κ ((.bool x, []) : Res)) else cf f args lent κ) else cf f args lent κ
theorem F80_d (k : Nat) (h : ∀ (a0 : (List (ByteArray × Int))) (κ : Res → Option Res), (ev Try.prog cfg k).call 80 [.list (.pair .str (.int .i64)) a0 .no] [] κ = F80 k a0 (fun x => κ ((.bool x, []) : Res))) : F80_m k (ev Try.prog cfg k).call = (ev Try.prog cfg k).call := by
  funext f args lent κ
  unfold F80_m
  split
  · rename_i hp
    split
    · rename_i hs
      rw [Bool.and_eq_true] at hs
      have e : mkC F80_s 0 args = [.list (.pair .str (.int .i64)) (listOf (.pair .str (.int .i64)) (nth args 0)) .no] := by kernel_rfl
      have e' : mkB F80_b 0 lent = [] := by kernel_rfl
      obtain rfl := Nat.eq_of_beq_eq_true hp
      exact (h (listOf (.pair .str (.int .i64)) (nth args 0)) κ).symm.trans (cong2 (fun a l => (ev Try.prog cfg k).call 80 a l κ) (e.symm.trans (okC_eq hs.1).symm) (e'.symm.trans (okB_eq hs.2).symm))
    · rfl
  · rfl
theorem F80_ev : ∀ (k : Nat) (a0 : (List (ByteArray × Int))) (κ : Res → Option Res), (ev Try.prog cfg k).call 80 [.list (.pair .str (.int .i64)) a0 .no] [] κ = F80 k a0 (fun x => κ ((.bool x, []) : Res)) := by
  intro k
  induction k with
  | zero => intros; rfl
  | succ k ih =>
    intro a0 κ
    refine (ev_call' Try.prog cfg k 80 0 _ _ κ (by rfl)).trans ?_
    rw [← F16_d k (F16_ev k), ← F108_d k (F108_ev k), ← L80_0_d k κ (L80_0_ev k κ)]
    kernel_rfl
def L23_0 : Nat → ((ByteArray × (List (ByteArray × Int))) × Bool × (List (ByteArray × (List (ByteArray × Int)))) → Option Res) → ByteArray → Int → Int → ByteArray → (List (ByteArray × Int)) → (List (ByteArray × (List (ByteArray × Int)))) → (Int → Option Res) → Option Res
  | 0, _, _, _, _, _, _, _, _ => none
  | k + 1, κ, p0, p1, p2, p3, p4, p5, K =>
  if decide (p2 < p1) = true then
   (if (decide ((0 : Int) ≤ p2) && decide (p2 < (p5.length : Int))) = true then
    (if decide (p2.toNat < p5.length) = true then
     (if (((p5.getD p2.toNat ((⟨#[]⟩ : ByteArray), ([] : List (ByteArray × Int)))).1).toList == p0.toList) = true then
      (if decide (((p5.getD p2.toNat ((⟨#[]⟩ : ByteArray), ([] : List (ByteArray × Int)))).2).length ≤ 1000000) = true then κ ((p5.getD p2.toNat ((⟨#[]⟩ : ByteArray), ([] : List (ByteArray × Int)))), (true, p5)) else none)
     else
      (L23_0 k κ p0 p1 (IntKind.wrap .i64 (p2 + (1 : Int))) p3 p4 p5 K))
    else
     (none))
   else
    (none))
  else
   (K p2)
def L23_0_s : List SC := [.one .undef, .one .str, .one .undef, .one .undef, .one (.ref 4 0), .one .undef, .one .undef, .one .undef, .one .undef, .one .undef, .one .undef, .one .undef, .one .undef, .one .undef, .one (.alias (.c 32 0)), .one (.int .i64), .one (.int .i64), .one .undef, .one .undef, .one .undef, .one .undef, .one .undef, .one .undef, .one .undef, .one .undef, .one .undef, .one .undef, .one .undef, .one .undef, .one .undef, .one .undef, .one .undef]
def L23_0_b : List (List SC) := [[], [], [], [], [.one .str, .one (.list (.pair .str (.int .i64)) (.own false false))], [], [], [], [], [], [], [], [], [], [], [], [], [], [], [], [], [], [], [], [], [], [], [], [], [], [], [], [.one (.list (.pair .str (.list (.pair .str (.int .i64)))) (.own false false))]]
def L23_0_m (k : Nat) (κ : Res → Option Res) (lf : LoopF) : LoopF := fun p σ K => if pathEq p [true, true, false, true, false] = true then (if okSt 32 L23_0_s L23_0_b σ = true then L23_0 k (fun x => κ ((.tup [.agg [.str x.1.1, .list (.pair .str (.int .i64)) x.1.2 .no], .bool x.2.1], [[.list (.pair .str (.list (.pair .str (.int .i64)))) x.2.2 (.own false false)]]) : Res)) (stringOf (nth σ.slots 1)) (intOf (nth σ.slots 15)) (intOf (nth σ.slots 16)) (stringOf (nth (nthB σ.boxes 4) 0)) (listOf (.pair .str (.int .i64)) (nth (nthB σ.boxes 4) 1)) (listOf (.pair .str (.list (.pair .str (.int .i64)))) (nth (nthB σ.boxes 32) 0)) (fun v => K (.exit 0) ⟨32, [.undef, .str (stringOf (nth σ.slots 1)), .undef, .undef, .ref 4 0, .undef, .undef, .undef, .undef, .undef, .undef, .undef, .undef, .undef, .alias (.c 32 0), .int .i64 (intOf (nth σ.slots 15)), .int .i64 v, .undef, .undef, .undef, .undef, .undef, .undef, .undef, .undef, .undef, .undef, .undef, .undef, .undef, .undef, .undef], [[], [], [], [], [.str (stringOf (nth (nthB σ.boxes 4) 0)), .list (.pair .str (.int .i64)) (listOf (.pair .str (.int .i64)) (nth (nthB σ.boxes 4) 1)) (.own false false)], [], [], [], [], [], [], [], [], [], [], [], [], [], [], [], [], [], [], [], [], [], [], [], [], [], [], [], [.list (.pair .str (.list (.pair .str (.int .i64)))) (listOf (.pair .str (.list (.pair .str (.int .i64)))) (nth (nthB σ.boxes 32) 0)) (.own false false)]]⟩) else lf p σ K) else lf p σ K
theorem L23_0_d (k : Nat) (κ : Res → Option Res) (h : ∀ (p0 : ByteArray) (p1 : Int) (p2 : Int) (p3 : ByteArray) (p4 : (List (ByteArray × Int))) (p5 : (List (ByteArray × (List (ByteArray × Int))))) (K : Cont), (ev Try.prog cfg k).loop 23 1 κ [true, true, false, true, false] ⟨32, [.undef, .str p0, .undef, .undef, .ref 4 0, .undef, .undef, .undef, .undef, .undef, .undef, .undef, .undef, .undef, .alias (.c 32 0), .int .i64 p1, .int .i64 p2, .undef, .undef, .undef, .undef, .undef, .undef, .undef, .undef, .undef, .undef, .undef, .undef, .undef, .undef, .undef], [[], [], [], [], [.str p3, .list (.pair .str (.int .i64)) p4 (.own false false)], [], [], [], [], [], [], [], [], [], [], [], [], [], [], [], [], [], [], [], [], [], [], [], [], [], [], [], [.list (.pair .str (.list (.pair .str (.int .i64)))) p5 (.own false false)]]⟩ K = L23_0 k (fun x => κ ((.tup [.agg [.str x.1.1, .list (.pair .str (.int .i64)) x.1.2 .no], .bool x.2.1], [[.list (.pair .str (.list (.pair .str (.int .i64)))) x.2.2 (.own false false)]]) : Res)) p0 p1 p2 p3 p4 p5 (fun v => K (.exit 0) ⟨32, [.undef, .str p0, .undef, .undef, .ref 4 0, .undef, .undef, .undef, .undef, .undef, .undef, .undef, .undef, .undef, .alias (.c 32 0), .int .i64 p1, .int .i64 v, .undef, .undef, .undef, .undef, .undef, .undef, .undef, .undef, .undef, .undef, .undef, .undef, .undef, .undef, .undef], [[], [], [], [], [.str p3, .list (.pair .str (.int .i64)) p4 (.own false false)], [], [], [], [], [], [], [], [], [], [], [], [], [], [], [], [], [], [], [], [], [], [], [], [], [], [], [], [.list (.pair .str (.list (.pair .str (.int .i64)))) p5 (.own false false)]]⟩)) : L23_0_m k κ ((ev Try.prog cfg k).loop 23 1 κ) = (ev Try.prog cfg k).loop 23 1 κ := by
  funext p σ K
  unfold L23_0_m
  split
  · rename_i hp
    split
    · rename_i hs
      have e : mkSt 32 L23_0_s L23_0_b σ = ⟨32, [.undef, .str (stringOf (nth σ.slots 1)), .undef, .undef, .ref 4 0, .undef, .undef, .undef, .undef, .undef, .undef, .undef, .undef, .undef, .alias (.c 32 0), .int .i64 (intOf (nth σ.slots 15)), .int .i64 (intOf (nth σ.slots 16)), .undef, .undef, .undef, .undef, .undef, .undef, .undef, .undef, .undef, .undef, .undef, .undef, .undef, .undef, .undef], [[], [], [], [], [.str (stringOf (nth (nthB σ.boxes 4) 0)), .list (.pair .str (.int .i64)) (listOf (.pair .str (.int .i64)) (nth (nthB σ.boxes 4) 1)) (.own false false)], [], [], [], [], [], [], [], [], [], [], [], [], [], [], [], [], [], [], [], [], [], [], [], [], [], [], [], [.list (.pair .str (.list (.pair .str (.int .i64)))) (listOf (.pair .str (.list (.pair .str (.int .i64)))) (nth (nthB σ.boxes 32) 0)) (.own false false)]]⟩ := by kernel_rfl
      rw [pathEq_eq hp]
      exact (h (stringOf (nth σ.slots 1)) (intOf (nth σ.slots 15)) (intOf (nth σ.slots 16)) (stringOf (nth (nthB σ.boxes 4) 0)) (listOf (.pair .str (.int .i64)) (nth (nthB σ.boxes 4) 1)) (listOf (.pair .str (.list (.pair .str (.int .i64)))) (nth (nthB σ.boxes 32) 0)) K).symm.trans (congrArg (fun s => (ev Try.prog cfg k).loop 23 1 κ [true, true, false, true, false] s K) (e.symm.trans (okSt_eq hs).symm))
    · rfl
  · rfl
theorem L23_0_ev : ∀ (k : Nat) (κ : Res → Option Res) (p0 : ByteArray) (p1 : Int) (p2 : Int) (p3 : ByteArray) (p4 : (List (ByteArray × Int))) (p5 : (List (ByteArray × (List (ByteArray × Int))))) (K : Cont), (ev Try.prog cfg k).loop 23 1 κ [true, true, false, true, false] ⟨32, [.undef, .str p0, .undef, .undef, .ref 4 0, .undef, .undef, .undef, .undef, .undef, .undef, .undef, .undef, .undef, .alias (.c 32 0), .int .i64 p1, .int .i64 p2, .undef, .undef, .undef, .undef, .undef, .undef, .undef, .undef, .undef, .undef, .undef, .undef, .undef, .undef, .undef], [[], [], [], [], [.str p3, .list (.pair .str (.int .i64)) p4 (.own false false)], [], [], [], [], [], [], [], [], [], [], [], [], [], [], [], [], [], [], [], [], [], [], [], [], [], [], [], [.list (.pair .str (.list (.pair .str (.int .i64)))) p5 (.own false false)]]⟩ K = L23_0 k (fun x => κ ((.tup [.agg [.str x.1.1, .list (.pair .str (.int .i64)) x.1.2 .no], .bool x.2.1], [[.list (.pair .str (.list (.pair .str (.int .i64)))) x.2.2 (.own false false)]]) : Res)) p0 p1 p2 p3 p4 p5 (fun v => K (.exit 0) ⟨32, [.undef, .str p0, .undef, .undef, .ref 4 0, .undef, .undef, .undef, .undef, .undef, .undef, .undef, .undef, .undef, .alias (.c 32 0), .int .i64 p1, .int .i64 v, .undef, .undef, .undef, .undef, .undef, .undef, .undef, .undef, .undef, .undef, .undef, .undef, .undef, .undef, .undef], [[], [], [], [], [.str p3, .list (.pair .str (.int .i64)) p4 (.own false false)], [], [], [], [], [], [], [], [], [], [], [], [], [], [], [], [], [], [], [], [], [], [], [], [], [], [], [], [.list (.pair .str (.list (.pair .str (.int .i64)))) p5 (.own false false)]]⟩) := by
  intro k κ
  induction k with
  | zero => intro p0 p1 p2 p3 p4 p5 K; rfl
  | succ k ih =>
    intro p0 p1 p2 p3 p4 p5 K
    rw [ev_loop, ← L23_0_d k κ ih]
    kernel_rfl
/-- (*lamplighter/schema.Schema).Find -/
def F23 : Nat → ByteArray → (List (ByteArray × (List (ByteArray × Int)))) → ((ByteArray × (List (ByteArray × Int))) × Bool × (List (ByteArray × (List (ByteArray × Int)))) → Option Res) → Option Res
  | 0, _, _, _ => none
  | k + 1, a1, b0_0, κ =>
  L23_0 k κ a1 (b0_0.length : Int) (0 : Int) (⟨#[]⟩ : ByteArray) ([] : List (ByteArray × Int)) b0_0 fun v1 =>
  κ (((⟨#[]⟩ : ByteArray), ([] : List (ByteArray × Int))), (false, b0_0))
def F23_s : List SC := [.one (.ref 0 0), .one .str]
def F23_b : List (List SC) := [[.one (.list (.pair .str (.list (.pair .str (.int .i64)))) (.own false false))]]
def F23_m (k : Nat) (cf : CallF) : CallF := fun f args lent κ => if Nat.beq f 23 = true then (if (okC F23_s args && okB F23_b lent) = true then F23 k (stringOf (nth args 1)) (listOf (.pair .str (.list (.pair .str (.int .i64)))) (nth (nthB lent 0) 0)) (fun x => κ ((.tup [.agg [.str x.1.1, .list (.pair .str (.int .i64)) x.1.2 .no], .bool x.2.1], [[.list (.pair .str (.list (.pair .str (.int .i64)))) x.2.2 (.own false false)]]) : Res)) else cf f args lent κ) else cf f args lent κ
theorem F23_d (k : Nat) (h : ∀ (a1 : ByteArray) (b0_0 : (List (ByteArray × (List (ByteArray × Int))))) (κ : Res → Option Res), (ev Try.prog cfg k).call 23 [.ref 0 0, .str a1] [[.list (.pair .str (.list (.pair .str (.int .i64)))) b0_0 (.own false false)]] κ = F23 k a1 b0_0 (fun x => κ ((.tup [.agg [.str x.1.1, .list (.pair .str (.int .i64)) x.1.2 .no], .bool x.2.1], [[.list (.pair .str (.list (.pair .str (.int .i64)))) x.2.2 (.own false false)]]) : Res))) : F23_m k (ev Try.prog cfg k).call = (ev Try.prog cfg k).call := by
  funext f args lent κ
  unfold F23_m
  split
  · rename_i hp
    split
    · rename_i hs
      rw [Bool.and_eq_true] at hs
      have e : mkC F23_s 0 args = [.ref 0 0, .str (stringOf (nth args 1))] := by kernel_rfl
      have e' : mkB F23_b 0 lent = [[.list (.pair .str (.list (.pair .str (.int .i64)))) (listOf (.pair .str (.list (.pair .str (.int .i64)))) (nth (nthB lent 0) 0)) (.own false false)]] := by kernel_rfl
      obtain rfl := Nat.eq_of_beq_eq_true hp
      exact (h (stringOf (nth args 1)) (listOf (.pair .str (.list (.pair .str (.int .i64)))) (nth (nthB lent 0) 0)) κ).symm.trans (cong2 (fun a l => (ev Try.prog cfg k).call 23 a l κ) (e.symm.trans (okC_eq hs.1).symm) (e'.symm.trans (okB_eq hs.2).symm))
    · rfl
  · rfl
theorem F23_ev : ∀ (k : Nat) (a1 : ByteArray) (b0_0 : (List (ByteArray × (List (ByteArray × Int))))) (κ : Res → Option Res), (ev Try.prog cfg k).call 23 [.ref 0 0, .str a1] [[.list (.pair .str (.list (.pair .str (.int .i64)))) b0_0 (.own false false)]] κ = F23 k a1 b0_0 (fun x => κ ((.tup [.agg [.str x.1.1, .list (.pair .str (.int .i64)) x.1.2 .no], .bool x.2.1], [[.list (.pair .str (.list (.pair .str (.int .i64)))) x.2.2 (.own false false)]]) : Res)) := by
  intro k
  induction k with
  | zero => intros; rfl
  | succ k ih =>
    intro a1 b0_0 κ
    refine (ev_call' Try.prog cfg k 23 1 _ _ κ (by rfl)).trans ?_
    rw [← L23_0_d k κ (L23_0_ev k κ)]
    kernel_rfl
def L19_0 : Nat → (Int → Option Res) → (Int × (List (ByteArray × (List (ByteArray × Int)))) → Option Res) → (List (ByteArray × (List (ByteArray × Int)))) → Int → Int → (List (ByteArray × (List (ByteArray × Int)))) → (Int × (List (ByteArray × (List (ByteArray × Int)))) → Option Res) → Option Res
  | 0, _, _, _, _, _, _, _ => none
  | k + 1, κ, κ1, p0, p1, p2, p3, K =>
  if decide (p2 < p1) = true then
   (if (decide ((0 : Int) ≤ p2) && decide (p2 < (p0.length : Int))) = true then
    (F16 k ((p0.getD p2.toNat ((⟨#[]⟩ : ByteArray), ([] : List (ByteArray × Int)))).1) fun x1 =>
    if (!x1) = true then
     (κ (1 : Int))
    else
     (F80 k ((p0.getD p2.toNat ((⟨#[]⟩ : ByteArray), ([] : List (ByteArray × Int)))).2) fun x2 =>
     if (!x2) = true then
      (κ (1 : Int))
     else
      (F23 k ((p0.getD p2.toNat ((⟨#[]⟩ : ByteArray), ([] : List (ByteArray × Int)))).1) p3 fun x3 =>
      if x3.2.1 = true then
       (κ (4 : Int))
      else
       (if decide (((p0.getD p2.toNat ((⟨#[]⟩ : ByteArray), ([] : List (ByteArray × Int)))).2).length ≤ 1000000) = true then if decide ((x3.2.2.length + ([(p0.getD p2.toNat ((⟨#[]⟩ : ByteArray), ([] : List (ByteArray × Int))))] : List (ByteArray × (List (ByteArray × Int)))).length) * 40 ≤ 140737488355328) = true then L19_0 k κ κ1 p0 p1 (IntKind.wrap .i64 (p2 + (1 : Int))) (x3.2.2 ++ ([(p0.getD p2.toNat ((⟨#[]⟩ : ByteArray), ([] : List (ByteArray × Int))))] : List (ByteArray × (List (ByteArray × Int))))) K else none else none))))
   else
    (none))
  else
   (K (p2, p3))
def L19_0_s : List SC := [.one .undef, .one .undef, .one .undef, .one .undef, .one (.ref 13 0), .one .undef, .one .undef, .one .undef, .one .undef, .one .undef, .one .undef, .one .undef, .one .undef, .one (.ref 13 0), .one (.list (.pair .str (.list (.pair .str (.int .i64)))) .no), .one (.int .i64), .one (.int .i64), .one .undef, .one .undef, .one .undef, .one .undef, .one .undef, .one .undef, .one .undef, .one .undef, .one .undef, .one .undef, .one .undef, .one .undef, .one .undef, .one .undef, .one .undef, .one .undef, .one .undef, .one .undef, .one .undef, .one .undef, .one .undef, .one .undef, .one .undef, .one .undef, .one .undef, .one .undef, .one .undef, .one .undef, .one .undef, .one .undef, .one .undef, .one .undef, .one .undef, .one .undef, .one .undef, .one .undef, .one .undef, .one .undef]
def L19_0_b : List (List SC) := [[], [], [], [], [], [], [], [], [], [], [], [], [], [.one (.list (.pair .str (.list (.pair .str (.int .i64)))) (.own false false))], [], [], [], [], [], [], [], [], [], [], [], [], [], [], [], [], [], [], [], [], [], [], [], [], [], [], [], [], [], [], [], [], [], [], [], [], [], [], [], [], []]
def L19_0_m (k : Nat) (κ : Res → Option Res) (lf : LoopF) : LoopF := fun p σ K => if pathEq p [true, true, true, false, true, false] = true then (if okSt 55 L19_0_s L19_0_b σ = true then L19_0 k (fun x => κ ((.tup [.nilp, .int .i64 x], []) : Res)) (fun x => κ ((.tup [.ref 0 0, .int .i64 x.1], [[.list (.pair .str (.list (.pair .str (.int .i64)))) x.2 (.own false false)]]) : Res)) (listOf (.pair .str (.list (.pair .str (.int .i64)))) (nth σ.slots 14)) (intOf (nth σ.slots 15)) (intOf (nth σ.slots 16)) (listOf (.pair .str (.list (.pair .str (.int .i64)))) (nth (nthB σ.boxes 13) 0)) (fun v => K (.exit 0) ⟨55, [.undef, .undef, .undef, .undef, .ref 13 0, .undef, .undef, .undef, .undef, .undef, .undef, .undef, .undef, .ref 13 0, .list (.pair .str (.list (.pair .str (.int .i64)))) (listOf (.pair .str (.list (.pair .str (.int .i64)))) (nth σ.slots 14)) .no, .int .i64 (intOf (nth σ.slots 15)), .int .i64 v.1, .undef, .undef, .undef, .undef, .undef, .undef, .undef, .undef, .undef, .undef, .undef, .undef, .undef, .undef, .undef, .undef, .undef, .undef, .undef, .undef, .undef, .undef, .undef, .undef, .undef, .undef, .undef, .undef, .undef, .undef, .undef, .undef, .undef, .undef, .undef, .undef, .undef, .undef], [[], [], [], [], [], [], [], [], [], [], [], [], [], [.list (.pair .str (.list (.pair .str (.int .i64)))) v.2 (.own false false)], [], [], [], [], [], [], [], [], [], [], [], [], [], [], [], [], [], [], [], [], [], [], [], [], [], [], [], [], [], [], [], [], [], [], [], [], [], [], [], [], []]⟩) else lf p σ K) else lf p σ K
theorem L19_0_d (k : Nat) (κ : Res → Option Res) (h : ∀ (p0 : (List (ByteArray × (List (ByteArray × Int))))) (p1 : Int) (p2 : Int) (p3 : (List (ByteArray × (List (ByteArray × Int))))) (K : Cont), (ev Try.prog cfg k).loop 19 0 κ [true, true, true, false, true, false] ⟨55, [.undef, .undef, .undef, .undef, .ref 13 0, .undef, .undef, .undef, .undef, .undef, .undef, .undef, .undef, .ref 13 0, .list (.pair .str (.list (.pair .str (.int .i64)))) p0 .no, .int .i64 p1, .int .i64 p2, .undef, .undef, .undef, .undef, .undef, .undef, .undef, .undef, .undef, .undef, .undef, .undef, .undef, .undef, .undef, .undef, .undef, .undef, .undef, .undef, .undef, .undef, .undef, .undef, .undef, .undef, .undef, .undef, .undef, .undef, .undef, .undef, .undef, .undef, .undef, .undef, .undef, .undef], [[], [], [], [], [], [], [], [], [], [], [], [], [], [.list (.pair .str (.list (.pair .str (.int .i64)))) p3 (.own false false)], [], [], [], [], [], [], [], [], [], [], [], [], [], [], [], [], [], [], [], [], [], [], [], [], [], [], [], [], [], [], [], [], [], [], [], [], [], [], [], [], []]⟩ K = L19_0 k (fun x => κ ((.tup [.nilp, .int .i64 x], []) : Res)) (fun x => κ ((.tup [.ref 0 0, .int .i64 x.1], [[.list (.pair .str (.list (.pair .str (.int .i64)))) x.2 (.own false false)]]) : Res)) p0 p1 p2 p3 (fun v => K (.exit 0) ⟨55, [.undef, .undef, .undef, .undef, .ref 13 0, .undef, .undef, .undef, .undef, .undef, .undef, .undef, .undef, .ref 13 0, .list (.pair .str (.list (.pair .str (.int .i64)))) p0 .no, .int .i64 p1, .int .i64 v.1, .undef, .undef, .undef, .undef, .undef, .undef, .undef, .undef, .undef, .undef, .undef, .undef, .undef, .undef, .undef, .undef, .undef, .undef, .undef, .undef, .undef, .undef, .undef, .undef, .undef, .undef, .undef, .undef, .undef, .undef, .undef, .undef, .undef, .undef, .undef, .undef, .undef, .undef], [[], [], [], [], [], [], [], [], [], [], [], [], [], [.list (.pair .str (.list (.pair .str (.int .i64)))) v.2 (.own false false)], [], [], [], [], [], [], [], [], [], [], [], [], [], [], [], [], [], [], [], [], [], [], [], [], [], [], [], [], [], [], [], [], [], [], [], [], [], [], [], [], []]⟩)) : L19_0_m k κ ((ev Try.prog cfg k).loop 19 0 κ) = (ev Try.prog cfg k).loop 19 0 κ := by
  funext p σ K
  unfold L19_0_m
  split
  · rename_i hp
    split
    · rename_i hs
      have e : mkSt 55 L19_0_s L19_0_b σ = ⟨55, [.undef, .undef, .undef, .undef, .ref 13 0, .undef, .undef, .undef, .undef, .undef, .undef, .undef, .undef, .ref 13 0, .list (.pair .str (.list (.pair .str (.int .i64)))) (listOf (.pair .str (.list (.pair .str (.int .i64)))) (nth σ.slots 14)) .no, .int .i64 (intOf (nth σ.slots 15)), .int .i64 (intOf (nth σ.slots 16)), .undef, .undef, .undef, .undef, .undef, .undef, .undef, .undef, .undef, .undef, .undef, .undef, .undef, .undef, .undef, .undef, .undef, .undef, .undef, .undef, .undef, .undef, .undef, .undef, .undef, .undef, .undef, .undef, .undef, .undef, .undef, .undef, .undef, .undef, .undef, .undef, .undef, .undef], [[], [], [], [], [], [], [], [], [], [], [], [], [], [.list (.pair .str (.list (.pair .str (.int .i64)))) (listOf (.pair .str (.list (.pair .str (.int .i64)))) (nth (nthB σ.boxes 13) 0)) (.own false false)], [], [], [], [], [], [], [], [], [], [], [], [], [], [], [], [], [], [], [], [], [], [], [], [], [], [], [], [], [], [], [], [], [], [], [], [], [], [], [], [], []]⟩ := by kernel_rfl
      rw [pathEq_eq hp]
      exact (h (listOf (.pair .str (.list (.pair .str (.int .i64)))) (nth σ.slots 14)) (intOf (nth σ.slots 15)) (intOf (nth σ.slots 16)) (listOf (.pair .str (.list (.pair .str (.int .i64)))) (nth (nthB σ.boxes 13) 0)) K).symm.trans (congrArg (fun s => (ev Try.prog cfg k).loop 19 0 κ [true, true, true, false, true, false] s K) (e.symm.trans (okSt_eq hs).symm))
    · rfl
  · rfl
theorem L19_0_ev : ∀ (k : Nat) (κ : Res → Option Res) (p0 : (List (ByteArray × (List (ByteArray × Int))))) (p1 : Int) (p2 : Int) (p3 : (List (ByteArray × (List (ByteArray × Int))))) (K : Cont), (ev Try.prog cfg k).loop 19 0 κ [true, true, true, false, true, false] ⟨55, [.undef, .undef, .undef, .undef, .ref 13 0, .undef, .undef, .undef, .undef, .undef, .undef, .undef, .undef, .ref 13 0, .list (.pair .str (.list (.pair .str (.int .i64)))) p0 .no, .int .i64 p1, .int .i64 p2, .undef, .undef, .undef, .undef, .undef, .undef, .undef, .undef, .undef, .undef, .undef, .undef, .undef, .undef, .undef, .undef, .undef, .undef, .undef, .undef, .undef, .undef, .undef, .undef, .undef, .undef, .undef, .undef, .undef, .undef, .undef, .undef, .undef, .undef, .undef, .undef, .undef, .undef], [[], [], [], [], [], [], [], [], [], [], [], [], [], [.list (.pair .str (.list (.pair .str (.int .i64)))) p3 (.own false false)], [], [], [], [], [], [], [], [], [], [], [], [], [], [], [], [], [], [], [], [], [], [], [], [], [], [], [], [], [], [], [], [], [], [], [], [], [], [], [], [], []]⟩ K = L19_0 k (fun x => κ ((.tup [.nilp, .int .i64 x], []) : Res)) (fun x => κ ((.tup [.ref 0 0, .int .i64 x.1], [[.list (.pair .str (.list (.pair .str (.int .i64)))) x.2 (.own false false)]]) : Res)) p0 p1 p2 p3 (fun v => K (.exit 0) ⟨55, [.undef, .undef, .undef, .undef, .ref 13 0, .undef, .undef, .undef, .undef, .undef, .undef, .undef, .undef, .ref 13 0, .list (.pair .str (.list (.pair .str (.int .i64)))) p0 .no, .int .i64 p1, .int .i64 v.1, .undef, .undef, .undef, .undef, .undef, .undef, .undef, .undef, .undef, .undef, .undef, .undef, .undef, .undef, .undef, .undef, .undef, .undef, .undef, .undef, .undef, .undef, .undef, .undef, .undef, .undef, .undef, .undef, .undef, .undef, .undef, .undef, .undef, .undef, .undef, .undef, .undef, .undef], [[], [], [], [], [], [], [], [], [], [], [], [], [], [.list (.pair .str (.list (.pair .str (.int .i64)))) v.2 (.own false false)], [], [], [], [], [], [], [], [], [], [], [], [], [], [], [], [], [], [], [], [], [], [], [], [], [], [], [], [], [], [], [], [], [], [], [], [], [], [], [], [], []]⟩) := by
  intro k κ
  induction k with
  | zero => intro p0 p1 p2 p3 K; rfl
  | succ k ih =>
    intro p0 p1 p2 p3 K
    rw [ev_loop, ← F16_d k (F16_ev k), ← F80_d k (F80_ev k), ← F23_d k (F23_ev k), ← L19_0_d k κ ih]
    kernel_rfl
/-- lamplighter/schema.New -/
def F19 : Nat → (List (ByteArray × (List (ByteArray × Int)))) → (Int → Option Res) → (Int × (List (ByteArray × (List (ByteArray × Int)))) → Option Res) → Option Res
  | 0, _, _, _ => none
  | k + 1, a0, κ, κ1 =>
  if decide ((a0.length : Int) > (16 : Int)) = true then
   (κ (5 : Int))
  else
   (L19_0 k κ κ1 a0 (a0.length : Int) (0 : Int) ([] : List (ByteArray × (List (ByteArray × Int)))) fun v4 =>
   κ1 ((0 : Int), v4.2))
def F19_s : List SC := [.one (.list (.pair .str (.list (.pair .str (.int .i64)))) .no)]
def F19_b : List (List SC) := []
def F19_m (k : Nat) (cf : CallF) : CallF := fun f args lent κ => if Nat.beq f 19 = true then (if (okC F19_s args && okB F19_b lent) = true then F19 k (listOf (.pair .str (.list (.pair .str (.int .i64)))) (nth args 0)) (fun x => κ ((.tup [.nilp, .int .i64 x], []) : Res)) (fun x => κ ((.tup [.ref 0 0, .int .i64 x.1], [[.list (.pair .str (.list (.pair .str (.int .i64)))) x.2 (.own false false)]]) : Res)) else cf f args lent κ) else cf f args lent κ
theorem F19_d (k : Nat) (h : ∀ (a0 : (List (ByteArray × (List (ByteArray × Int))))) (κ : Res → Option Res), (ev Try.prog cfg k).call 19 [.list (.pair .str (.list (.pair .str (.int .i64)))) a0 .no] [] κ = F19 k a0 (fun x => κ ((.tup [.nilp, .int .i64 x], []) : Res)) (fun x => κ ((.tup [.ref 0 0, .int .i64 x.1], [[.list (.pair .str (.list (.pair .str (.int .i64)))) x.2 (.own false false)]]) : Res))) : F19_m k (ev Try.prog cfg k).call = (ev Try.prog cfg k).call := by
  funext f args lent κ
  unfold F19_m
  split
  · rename_i hp
    split
    · rename_i hs
      rw [Bool.and_eq_true] at hs
      have e : mkC F19_s 0 args = [.list (.pair .str (.list (.pair .str (.int .i64)))) (listOf (.pair .str (.list (.pair .str (.int .i64)))) (nth args 0)) .no] := by kernel_rfl
      have e' : mkB F19_b 0 lent = [] := by kernel_rfl
      obtain rfl := Nat.eq_of_beq_eq_true hp
      exact (h (listOf (.pair .str (.list (.pair .str (.int .i64)))) (nth args 0)) κ).symm.trans (cong2 (fun a l => (ev Try.prog cfg k).call 19 a l κ) (e.symm.trans (okC_eq hs.1).symm) (e'.symm.trans (okB_eq hs.2).symm))
    · rfl
  · rfl
theorem F19_ev : ∀ (k : Nat) (a0 : (List (ByteArray × (List (ByteArray × Int))))) (κ : Res → Option Res), (ev Try.prog cfg k).call 19 [.list (.pair .str (.list (.pair .str (.int .i64)))) a0 .no] [] κ = F19 k a0 (fun x => κ ((.tup [.nilp, .int .i64 x], []) : Res)) (fun x => κ ((.tup [.ref 0 0, .int .i64 x.1], [[.list (.pair .str (.list (.pair .str (.int .i64)))) x.2 (.own false false)]]) : Res)) := by
  intro k
  induction k with
  | zero => intros; rfl
  | succ k ih =>
    intro a0 κ
    refine (ev_call' Try.prog cfg k 19 0 _ _ κ (by rfl)).trans ?_
    rw [← F16_d k (F16_ev k), ← F80_d k (F80_ev k), ← F23_d k (F23_ev k), ← L19_0_d k κ (L19_0_ev k κ)]
    kernel_rfl
def L17_1 : Nat → (Bool → Option Res) → ByteArray → (List ByteArray) → Int → Int → (Int → Option Res) → Option Res
  | 0, _, _, _, _, _, _ => none
  | k + 1, κ, p0, p1, p2, p3, K =>
  if decide (p3 < p2) = true then
   (if (decide ((0 : Int) ≤ p3) && decide (p3 < (p1.length : Int))) = true then
    (if (p0.toList == (p1.getD p3.toNat (⟨#[]⟩ : ByteArray)).toList) = true then
     (κ false)
    else
     (L17_1 k κ p0 p1 p2 (IntKind.wrap .i64 (p3 + (1 : Int))) K))
   else
    (none))
  else
   (K p3)
def L17_1_s : List SC := [.one .str, .one .undef, .one .undef, .one .undef, .one .undef, .one .undef, .one .undef, .one .undef, .one .undef, .one .undef, .one .undef, .one .undef, .one .undef, .one .undef, .one .undef, .one .undef, .one .undef, .one .undef, .one .undef, .one .undef, .one .undef, .one .undef, .one .undef, .one .undef, .one .undef, .one .undef, .one .undef, .one .undef, .one .undef, .one .undef, .one .undef, .one .undef, .one .undef, .one .undef, .one .undef, .one .undef, .one .undef, .one .undef, .one .undef, .one .undef, .one .undef, .one .undef, .one .undef, .one .undef, .one .undef, .one .undef, .one .undef, .one .undef, .one .undef, .one .undef, .one .undef, .one .undef, .one .undef, .one .undef, .one .undef, .one .undef, .one (.list .str (.own true false)), .one (.int .i64), .one (.int .i64), .one .undef, .one .undef, .one .undef, .one .undef, .one .undef, .one .undef, .one .undef]
def L17_1_b : List (List SC) := [[], [], [], [], [], [], [], [], [], [], [], [], [], [], [], [], [], [], [], [], [], [], [], [], [], [], [], [], [], [], [], [], [], [], [], [], [], [], [], [], [], [], [], [], [], [], [], [], [], [], [], [], [], [], [], [], [], [], [], [], [], [], [], [], [], []]
def L17_1_m (k : Nat) (κ : Res → Option Res) (lf : LoopF) : LoopF := fun p σ K => if pathEq p [true, true, true, false, true, false] = true then (if okSt 66 L17_1_s L17_1_b σ = true then L17_1 k (fun x => κ ((.bool x, []) : Res)) (stringOf (nth σ.slots 0)) (listOf .str (nth σ.slots 56)) (intOf (nth σ.slots 57)) (intOf (nth σ.slots 58)) (fun v => K (.exit 2) ⟨66, [.str (stringOf (nth σ.slots 0)), .undef, .undef, .undef, .undef, .undef, .undef, .undef, .undef, .undef, .undef, .undef, .undef, .undef, .undef, .undef, .undef, .undef, .undef, .undef, .undef, .undef, .undef, .undef, .undef, .undef, .undef, .undef, .undef, .undef, .undef, .undef, .undef, .undef, .undef, .undef, .undef, .undef, .undef, .undef, .undef, .undef, .undef, .undef, .undef, .undef, .undef, .undef, .undef, .undef, .undef, .undef, .undef, .undef, .undef, .undef, .list .str (listOf .str (nth σ.slots 56)) (.own true false), .int .i64 (intOf (nth σ.slots 57)), .int .i64 v, .undef, .undef, .undef, .undef, .undef, .undef, .undef], [[], [], [], [], [], [], [], [], [], [], [], [], [], [], [], [], [], [], [], [], [], [], [], [], [], [], [], [], [], [], [], [], [], [], [], [], [], [], [], [], [], [], [], [], [], [], [], [], [], [], [], [], [], [], [], [], [], [], [], [], [], [], [], [], [], []]⟩) else lf p σ K) else lf p σ K
theorem L17_1_d (k : Nat) (κ : Res → Option Res) (h : ∀ (p0 : ByteArray) (p1 : (List ByteArray)) (p2 : Int) (p3 : Int) (K : Cont), (ev Try.prog cfg k).loop 17 0 κ [true, true, true, false, true, false] ⟨66, [.str p0, .undef, .undef, .undef, .undef, .undef, .undef, .undef, .undef, .undef, .undef, .undef, .undef, .undef, .undef, .undef, .undef, .undef, .undef, .undef, .undef, .undef, .undef, .undef, .undef, .undef, .undef, .undef, .undef, .undef, .undef, .undef, .undef, .undef, .undef, .undef, .undef, .undef, .undef, .undef, .undef, .undef, .undef, .undef, .undef, .undef, .undef, .undef, .undef, .undef, .undef, .undef, .undef, .undef, .undef, .undef, .list .str p1 (.own true false), .int .i64 p2, .int .i64 p3, .undef, .undef, .undef, .undef, .undef, .undef, .undef], [[], [], [], [], [], [], [], [], [], [], [], [], [], [], [], [], [], [], [], [], [], [], [], [], [], [], [], [], [], [], [], [], [], [], [], [], [], [], [], [], [], [], [], [], [], [], [], [], [], [], [], [], [], [], [], [], [], [], [], [], [], [], [], [], [], []]⟩ K = L17_1 k (fun x => κ ((.bool x, []) : Res)) p0 p1 p2 p3 (fun v => K (.exit 2) ⟨66, [.str p0, .undef, .undef, .undef, .undef, .undef, .undef, .undef, .undef, .undef, .undef, .undef, .undef, .undef, .undef, .undef, .undef, .undef, .undef, .undef, .undef, .undef, .undef, .undef, .undef, .undef, .undef, .undef, .undef, .undef, .undef, .undef, .undef, .undef, .undef, .undef, .undef, .undef, .undef, .undef, .undef, .undef, .undef, .undef, .undef, .undef, .undef, .undef, .undef, .undef, .undef, .undef, .undef, .undef, .undef, .undef, .list .str p1 (.own true false), .int .i64 p2, .int .i64 v, .undef, .undef, .undef, .undef, .undef, .undef, .undef], [[], [], [], [], [], [], [], [], [], [], [], [], [], [], [], [], [], [], [], [], [], [], [], [], [], [], [], [], [], [], [], [], [], [], [], [], [], [], [], [], [], [], [], [], [], [], [], [], [], [], [], [], [], [], [], [], [], [], [], [], [], [], [], [], [], []]⟩)) : L17_1_m k κ ((ev Try.prog cfg k).loop 17 0 κ) = (ev Try.prog cfg k).loop 17 0 κ := by
  funext p σ K
  unfold L17_1_m
  split
  · rename_i hp
    split
    · rename_i hs
      have e : mkSt 66 L17_1_s L17_1_b σ = ⟨66, [.str (stringOf (nth σ.slots 0)), .undef, .undef, .undef, .undef, .undef, .undef, .undef, .undef, .undef, .undef, .undef, .undef, .undef, .undef, .undef, .undef, .undef, .undef, .undef, .undef, .undef, .undef, .undef, .undef, .undef, .undef, .undef, .undef, .undef, .undef, .undef, .undef, .undef, .undef, .undef, .undef, .undef, .undef, .undef, .undef, .undef, .undef, .undef, .undef, .undef, .undef, .undef, .undef, .undef, .undef, .undef, .undef, .undef, .undef, .undef, .list .str (listOf .str (nth σ.slots 56)) (.own true false), .int .i64 (intOf (nth σ.slots 57)), .int .i64 (intOf (nth σ.slots 58)), .undef, .undef, .undef, .undef, .undef, .undef, .undef], [[], [], [], [], [], [], [], [], [], [], [], [], [], [], [], [], [], [], [], [], [], [], [], [], [], [], [], [], [], [], [], [], [], [], [], [], [], [], [], [], [], [], [], [], [], [], [], [], [], [], [], [], [], [], [], [], [], [], [], [], [], [], [], [], [], []]⟩ := by kernel_rfl
      rw [pathEq_eq hp]
      exact (h (stringOf (nth σ.slots 0)) (listOf .str (nth σ.slots 56)) (intOf (nth σ.slots 57)) (intOf (nth σ.slots 58)) K).symm.trans (congrArg (fun s => (ev Try.prog cfg k).loop 17 0 κ [true, true, true, false, true, false] s K) (e.symm.trans (okSt_eq hs).symm))
    · rfl
  · rfl
theorem L17_1_ev : ∀ (k : Nat) (κ : Res → Option Res) (p0 : ByteArray) (p1 : (List ByteArray)) (p2 : Int) (p3 : Int) (K : Cont), (ev Try.prog cfg k).loop 17 0 κ [true, true, true, false, true, false] ⟨66, [.str p0, .undef, .undef, .undef, .undef, .undef, .undef, .undef, .undef, .undef, .undef, .undef, .undef, .undef, .undef, .undef, .undef, .undef, .undef, .undef, .undef, .undef, .undef, .undef, .undef, .undef, .undef, .undef, .undef, .undef, .undef, .undef, .undef, .undef, .undef, .undef, .undef, .undef, .undef, .undef, .undef, .undef, .undef, .undef, .undef, .undef, .undef, .undef, .undef, .undef, .undef, .undef, .undef, .undef, .undef, .undef, .list .str p1 (.own true false), .int .i64 p2, .int .i64 p3, .undef, .undef, .undef, .undef, .undef, .undef, .undef], [[], [], [], [], [], [], [], [], [], [], [], [], [], [], [], [], [], [], [], [], [], [], [], [], [], [], [], [], [], [], [], [], [], [], [], [], [], [], [], [], [], [], [], [], [], [], [], [], [], [], [], [], [], [], [], [], [], [], [], [], [], [], [], [], [], []]⟩ K = L17_1 k (fun x => κ ((.bool x, []) : Res)) p0 p1 p2 p3 (fun v => K (.exit 2) ⟨66, [.str p0, .undef, .undef, .undef, .undef, .undef, .undef, .undef, .undef, .undef, .undef, .undef, .undef, .undef, .undef, .undef, .undef, .undef, .undef, .undef, .undef, .undef, .undef, .undef, .undef, .undef, .undef, .undef, .undef, .undef, .undef, .undef, .undef, .undef, .undef, .undef, .undef, .undef, .undef, .undef, .undef, .undef, .undef, .undef, .undef, .undef, .undef, .undef, .undef, .undef, .undef, .undef, .undef, .undef, .undef, .undef, .list .str p1 (.own true false), .int .i64 p2, .int .i64 v, .undef, .undef, .undef, .undef, .undef, .undef, .undef], [[], [], [], [], [], [], [], [], [], [], [], [], [], [], [], [], [], [], [], [], [], [], [], [], [], [], [], [], [], [], [], [], [], [], [], [], [], [], [], [], [], [], [], [], [], [], [], [], [], [], [], [], [], [], [], [], [], [], [], [], [], [], [], [], [], []]⟩) := by
  intro k κ
  induction k with
  | zero => intro p0 p1 p2 p3 K; rfl
  | succ k ih =>
    intro p0 p1 p2 p3 K
    rw [ev_loop, ← L17_1_d k κ ih]
    kernel_rfl
def L17_0 : Nat → (Bool → Option Res) → ByteArray → Int → (Int → Option Res) → Option Res
  | 0, _, _, _, _ => none
  | k + 1, κ, p0, p1, K =>
  if decide (p1 < (p0.size : Int)) = true then
   (if (decide ((0 : Int) ≤ p1) && decide (p1 < (p0.size : Int))) = true then
    (if decide ((byteAt p0 p1) ≥ (97 : Int)) = true then
     (if decide ((byteAt p0 p1) ≤ (122 : Int)) = true then
      (L17_0 k κ p0 (IntKind.wrap .i64 (p1 + (1 : Int))) K)
     else
      (if decide ((byteAt p0 p1) ≥ (65 : Int)) = true then
       (if decide ((byteAt p0 p1) ≤ (90 : Int)) = true then
        (L17_0 k κ p0 (IntKind.wrap .i64 (p1 + (1 : Int))) K)
       else
        (if (!((byteAt p0 p1) == (95 : Int))) = true then
         (if (p1 == (0 : Int)) = true then
          (κ false)
         else
          (if decide ((byteAt p0 p1) < (48 : Int)) = true then
           (κ false)
          else
           (if decide ((byteAt p0 p1) > (57 : Int)) = true then
            (κ false)
           else
            (L17_0 k κ p0 (IntKind.wrap .i64 (p1 + (1 : Int))) K))))
        else
         (L17_0 k κ p0 (IntKind.wrap .i64 (p1 + (1 : Int))) K)))
      else
       (if (!((byteAt p0 p1) == (95 : Int))) = true then
        (if (p1 == (0 : Int)) = true then
         (κ false)
        else
         (if decide ((byteAt p0 p1) < (48 : Int)) = true then
          (κ false)
         else
          (if decide ((byteAt p0 p1) > (57 : Int)) = true then
           (κ false)
          else
           (L17_0 k κ p0 (IntKind.wrap .i64 (p1 + (1 : Int))) K))))
       else
        (L17_0 k κ p0 (IntKind.wrap .i64 (p1 + (1 : Int))) K))))
    else
     (if decide ((byteAt p0 p1) ≥ (65 : Int)) = true then
      (if decide ((byteAt p0 p1) ≤ (90 : Int)) = true then
       (L17_0 k κ p0 (IntKind.wrap .i64 (p1 + (1 : Int))) K)
      else
       (if (!((byteAt p0 p1) == (95 : Int))) = true then
        (if (p1 == (0 : Int)) = true then
         (κ false)
        else
         (if decide ((byteAt p0 p1) < (48 : Int)) = true then
          (κ false)
         else
          (if decide ((byteAt p0 p1) > (57 : Int)) = true then
           (κ false)
          else
           (L17_0 k κ p0 (IntKind.wrap .i64 (p1 + (1 : Int))) K))))
       else
        (L17_0 k κ p0 (IntKind.wrap .i64 (p1 + (1 : Int))) K)))
     else
      (if (!((byteAt p0 p1) == (95 : Int))) = true then
       (if (p1 == (0 : Int)) = true then
        (κ false)
       else
        (if decide ((byteAt p0 p1) < (48 : Int)) = true then
         (κ false)
        else
         (if decide ((byteAt p0 p1) > (57 : Int)) = true then
          (κ false)
         else
          (L17_0 k κ p0 (IntKind.wrap .i64 (p1 + (1 : Int))) K))))
      else
       (L17_0 k κ p0 (IntKind.wrap .i64 (p1 + (1 : Int))) K))))
   else
    (none))
  else
   (K p1)
def L17_0_s : List SC := [.one .str, .one .undef, .one .undef, .one (.int .i64), .one .undef, .one .undef, .one .undef, .one .undef, .one .undef, .one .undef, .one .undef, .one .undef, .one .undef, .one .undef, .one .undef, .one .undef, .one .undef, .one .undef, .one .undef, .one .undef, .one .undef, .one .undef, .one .undef, .one .undef, .one .undef, .one .undef, .one .undef, .one .undef, .one .undef, .one .undef, .one .undef, .one .undef, .one .undef, .one .undef, .one .undef, .one .undef, .one .undef, .one .undef, .one .undef, .one .undef, .one .undef, .one .undef, .one .undef, .one .undef, .one .undef, .one .undef, .one .undef, .one .undef, .one .undef, .one .undef, .one .undef, .one .undef, .one .undef, .one .undef, .one .undef, .one .undef, .one .undef, .one .undef, .one .undef, .one .undef, .one .undef, .one .undef, .one .undef, .one .undef, .one .undef, .one .undef]
def L17_0_b : List (List SC) := [[], [], [], [], [], [], [], [], [], [], [], [], [], [], [], [], [], [], [], [], [], [], [], [], [], [], [], [], [], [], [], [], [], [], [], [], [], [], [], [], [], [], [], [], [], [], [], [], [], [], [], [], [], [], [], [], [], [], [], [], [], [], [], [], [], []]
def L17_0_m (k : Nat) (κ : Res → Option Res) (lf : LoopF) : LoopF := fun p σ K => if pathEq p [true, true, false, true, false] = true then (if okSt 66 L17_0_s L17_0_b σ = true then L17_0 k (fun x => κ ((.bool x, []) : Res)) (stringOf (nth σ.slots 0)) (intOf (nth σ.slots 3)) (fun v => K (.exit 0) ⟨66, [.str (stringOf (nth σ.slots 0)), .undef, .undef, .int .i64 v, .undef, .undef, .undef, .undef, .undef, .undef, .undef, .undef, .undef, .undef, .undef, .undef, .undef, .undef, .undef, .undef, .undef, .undef, .undef, .undef, .undef, .undef, .undef, .undef, .undef, .undef, .undef, .undef, .undef, .undef, .undef, .undef, .undef, .undef, .undef, .undef, .undef, .undef, .undef, .undef, .undef, .undef, .undef, .undef, .undef, .undef, .undef, .undef, .undef, .undef, .undef, .undef, .undef, .undef, .undef, .undef, .undef, .undef, .undef, .undef, .undef, .undef], [[], [], [], [], [], [], [], [], [], [], [], [], [], [], [], [], [], [], [], [], [], [], [], [], [], [], [], [], [], [], [], [], [], [], [], [], [], [], [], [], [], [], [], [], [], [], [], [], [], [], [], [], [], [], [], [], [], [], [], [], [], [], [], [], [], []]⟩) else lf p σ K) else lf p σ K
theorem L17_0_d (k : Nat) (κ : Res → Option Res) (h : ∀ (p0 : ByteArray) (p1 : Int) (K : Cont), (ev Try.prog cfg k).loop 17 0 κ [true, true, false, true, false] ⟨66, [.str p0, .undef, .undef, .int .i64 p1, .undef, .undef, .undef, .undef, .undef, .undef, .undef, .undef, .undef, .undef, .undef, .undef, .undef, .undef, .undef, .undef, .undef, .undef, .undef, .undef, .undef, .undef, .undef, .undef, .undef, .undef, .undef, .undef, .undef, .undef, .undef, .undef, .undef, .undef, .undef, .undef, .undef, .undef, .undef, .undef, .undef, .undef, .undef, .undef, .undef, .undef, .undef, .undef, .undef, .undef, .undef, .undef, .undef, .undef, .undef, .undef, .undef, .undef, .undef, .undef, .undef, .undef], [[], [], [], [], [], [], [], [], [], [], [], [], [], [], [], [], [], [], [], [], [], [], [], [], [], [], [], [], [], [], [], [], [], [], [], [], [], [], [], [], [], [], [], [], [], [], [], [], [], [], [], [], [], [], [], [], [], [], [], [], [], [], [], [], [], []]⟩ K = L17_0 k (fun x => κ ((.bool x, []) : Res)) p0 p1 (fun v => K (.exit 0) ⟨66, [.str p0, .undef, .undef, .int .i64 v, .undef, .undef, .undef, .undef, .undef, .undef, .undef, .undef, .undef, .undef, .undef, .undef, .undef, .undef, .undef, .undef, .undef, .undef, .undef, .undef, .undef, .undef, .undef, .undef, .undef, .undef, .undef, .undef, .undef, .undef, .undef, .undef, .undef, .undef, .undef, .undef, .undef, .undef, .undef, .undef, .undef, .undef, .undef, .undef, .undef, .undef, .undef, .undef, .undef, .undef, .undef, .undef, .undef, .undef, .undef, .undef, .undef, .undef, .undef, .undef, .undef, .undef], [[], [], [], [], [], [], [], [], [], [], [], [], [], [], [], [], [], [], [], [], [], [], [], [], [], [], [], [], [], [], [], [], [], [], [], [], [], [], [], [], [], [], [], [], [], [], [], [], [], [], [], [], [], [], [], [], [], [], [], [], [], [], [], [], [], []]⟩)) : L17_0_m k κ ((ev Try.prog cfg k).loop 17 0 κ) = (ev Try.prog cfg k).loop 17 0 κ := by
  funext p σ K
  unfold L17_0_m
  split
  · rename_i hp
    split
    · rename_i hs
      have e : mkSt 66 L17_0_s L17_0_b σ = ⟨66, [.str (stringOf (nth σ.slots 0)), .undef, .undef, .int .i64 (intOf (nth σ.slots 3)), .undef, .undef, .undef, .undef, .undef, .undef, .undef, .undef, .undef, .undef, .undef, .undef, .undef, .undef, .undef, .undef, .undef, .undef, .undef, .undef, .undef, .undef, .undef, .undef, .undef, .undef, .undef, .undef, .undef, .undef, .undef, .undef, .undef, .undef, .undef, .undef, .undef, .undef, .undef, .undef, .undef, .undef, .undef, .undef, .undef, .undef, .undef, .undef, .undef, .undef, .undef, .undef, .undef, .undef, .undef, .undef, .undef, .undef, .undef, .undef, .undef, .undef], [[], [], [], [], [], [], [], [], [], [], [], [], [], [], [], [], [], [], [], [], [], [], [], [], [], [], [], [], [], [], [], [], [], [], [], [], [], [], [], [], [], [], [], [], [], [], [], [], [], [], [], [], [], [], [], [], [], [], [], [], [], [], [], [], [], []]⟩ := by kernel_rfl
      rw [pathEq_eq hp]
      exact (h (stringOf (nth σ.slots 0)) (intOf (nth σ.slots 3)) K).symm.trans (congrArg (fun s => (ev Try.prog cfg k).loop 17 0 κ [true, true, false, true, false] s K) (e.symm.trans (okSt_eq hs).symm))
    · rfl
  · rfl
theorem L17_0_ev : ∀ (k : Nat) (κ : Res → Option Res) (p0 : ByteArray) (p1 : Int) (K : Cont), (ev Try.prog cfg k).loop 17 0 κ [true, true, false, true, false] ⟨66, [.str p0, .undef, .undef, .int .i64 p1, .undef, .undef, .undef, .undef, .undef, .undef, .undef, .undef, .undef, .undef, .undef, .undef, .undef, .undef, .undef, .undef, .undef, .undef, .undef, .undef, .undef, .undef, .undef, .undef, .undef, .undef, .undef, .undef, .undef, .undef, .undef, .undef, .undef, .undef, .undef, .undef, .undef, .undef, .undef, .undef, .undef, .undef, .undef, .undef, .undef, .undef, .undef, .undef, .undef, .undef, .undef, .undef, .undef, .undef, .undef, .undef, .undef, .undef, .undef, .undef, .undef, .undef], [[], [], [], [], [], [], [], [], [], [], [], [], [], [], [], [], [], [], [], [], [], [], [], [], [], [], [], [], [], [], [], [], [], [], [], [], [], [], [], [], [], [], [], [], [], [], [], [], [], [], [], [], [], [], [], [], [], [], [], [], [], [], [], [], [], []]⟩ K = L17_0 k (fun x => κ ((.bool x, []) : Res)) p0 p1 (fun v => K (.exit 0) ⟨66, [.str p0, .undef, .undef, .int .i64 v, .undef, .undef, .undef, .undef, .undef, .undef, .undef, .undef, .undef, .undef, .undef, .undef, .undef, .undef, .undef, .undef, .undef, .undef, .undef, .undef, .undef, .undef, .undef, .undef, .undef, .undef, .undef, .undef, .undef, .undef, .undef, .undef, .undef, .undef, .undef, .undef, .undef, .undef, .undef, .undef, .undef, .undef, .undef, .undef, .undef, .undef, .undef, .undef, .undef, .undef, .undef, .undef, .undef, .undef, .undef, .undef, .undef, .undef, .undef, .undef, .undef, .undef], [[], [], [], [], [], [], [], [], [], [], [], [], [], [], [], [], [], [], [], [], [], [], [], [], [], [], [], [], [], [], [], [], [], [], [], [], [], [], [], [], [], [], [], [], [], [], [], [], [], [], [], [], [], [], [], [], [], [], [], [], [], [], [], [], [], []]⟩) := by
  intro k κ
  induction k with
  | zero => intro p0 p1 K; rfl
  | succ k ih =>
    intro p0 p1 K
    rw [ev_loop, ← L17_0_d k κ ih]
    kernel_rfl
/-- lamplighter/lamplighterref03.Name -/
def F17 : Nat → ByteArray → (Bool → Option Res) → Option Res
  | 0, _, _ => none
  | k + 1, a0, κ =>
  if (a0.toList == (⟨#[]⟩ : ByteArray).toList) = true then
   (κ false)
  else
   (if decide ((a0.size : Int) > (16 : Int)) = true then
    (κ false)
   else
    (L17_0 k κ a0 (0 : Int) fun v1 =>
    L17_1 k κ a0 ([(⟨#[83, 69, 81]⟩ : ByteArray), (⟨#[87, 72, 69, 82, 69]⟩ : ByteArray), (⟨#[87, 73, 84, 72, 73, 78]⟩ : ByteArray), (⟨#[67, 65, 80]⟩ : ByteArray), (⟨#[97, 110, 100]⟩ : ByteArray), (⟨#[111, 114]⟩ : ByteArray), (⟨#[110, 111, 116]⟩ : ByteArray), (⟨#[116, 114, 117, 101]⟩ : ByteArray), (⟨#[102, 97, 108, 115, 101]⟩ : ByteArray)] : List ByteArray) (([(⟨#[83, 69, 81]⟩ : ByteArray), (⟨#[87, 72, 69, 82, 69]⟩ : ByteArray), (⟨#[87, 73, 84, 72, 73, 78]⟩ : ByteArray), (⟨#[67, 65, 80]⟩ : ByteArray), (⟨#[97, 110, 100]⟩ : ByteArray), (⟨#[111, 114]⟩ : ByteArray), (⟨#[110, 111, 116]⟩ : ByteArray), (⟨#[116, 114, 117, 101]⟩ : ByteArray), (⟨#[102, 97, 108, 115, 101]⟩ : ByteArray)] : List ByteArray).length : Int) (0 : Int) fun v2 =>
    κ true))
def F17_s : List SC := [.one .str]
def F17_b : List (List SC) := []
def F17_m (k : Nat) (cf : CallF) : CallF := fun f args lent κ => if Nat.beq f 17 = true then (if (okC F17_s args && okB F17_b lent) = true then F17 k (stringOf (nth args 0)) (fun x => κ ((.bool x, []) : Res)) else cf f args lent κ) else cf f args lent κ
theorem F17_d (k : Nat) (h : ∀ (a0 : ByteArray) (κ : Res → Option Res), (ev Try.prog cfg k).call 17 [.str a0] [] κ = F17 k a0 (fun x => κ ((.bool x, []) : Res))) : F17_m k (ev Try.prog cfg k).call = (ev Try.prog cfg k).call := by
  funext f args lent κ
  unfold F17_m
  split
  · rename_i hp
    split
    · rename_i hs
      rw [Bool.and_eq_true] at hs
      have e : mkC F17_s 0 args = [.str (stringOf (nth args 0))] := by kernel_rfl
      have e' : mkB F17_b 0 lent = [] := by kernel_rfl
      obtain rfl := Nat.eq_of_beq_eq_true hp
      exact (h (stringOf (nth args 0)) κ).symm.trans (cong2 (fun a l => (ev Try.prog cfg k).call 17 a l κ) (e.symm.trans (okC_eq hs.1).symm) (e'.symm.trans (okB_eq hs.2).symm))
    · rfl
  · rfl
theorem F17_ev : ∀ (k : Nat) (a0 : ByteArray) (κ : Res → Option Res), (ev Try.prog cfg k).call 17 [.str a0] [] κ = F17 k a0 (fun x => κ ((.bool x, []) : Res)) := by
  intro k
  induction k with
  | zero => intros; rfl
  | succ k ih =>
    intro a0 κ
    refine (ev_call' Try.prog cfg k 17 0 _ _ κ (by rfl)).trans ?_
    rw [← L17_0_d k κ (L17_0_ev k κ), ← L17_1_d k κ (L17_1_ev k κ)]
    kernel_rfl
def L20_3 : Nat → (Int → Option Res) → (List (ByteArray × (List (ByteArray × Int)))) → Int → Int → (Int → Option Res) → Option Res
  | 0, _, _, _, _, _ => none
  | k + 1, κ, p0, p1, p2, K =>
  if decide (p2 < p1) = true then
   (if (decide ((0 : Int) ≤ p2) && decide (p2 < (p0.length : Int))) = true then
    (if (decide ((0 : Int) ≤ p1) && decide (p1 < (p0.length : Int))) = true then
     (if (((p0.getD p2.toNat ((⟨#[]⟩ : ByteArray), ([] : List (ByteArray × Int)))).1).toList == ((p0.getD p1.toNat ((⟨#[]⟩ : ByteArray), ([] : List (ByteArray × Int)))).1).toList) = true then
      (κ (4 : Int))
     else
      (L20_3 k κ p0 p1 (IntKind.wrap .i64 (p2 + (1 : Int))) K))
    else
     (none))
   else
    (none))
  else
   (K p2)
def L20_3_s : List SC := [.one (.list (.pair .str (.list (.pair .str (.int .i64)))) .no), .one .undef, .one .undef, .one (.int .i64), .one .undef, .one .undef, .one .undef, .one (.int .i64), .one .undef, .one .undef, .one .undef, .one .undef, .one .undef, .one .undef, .one .undef, .one .undef, .one .undef, .one .undef, .one .undef, .one .undef, .one .undef, .one .undef, .one .undef, .one .undef, .one .undef, .one .undef, .one .undef, .one .undef, .one .undef, .one .undef, .one .undef, .one .undef, .one .undef, .one .undef, .one .undef, .one .undef, .one .undef, .one .undef, .one .undef, .one .undef, .one .undef, .one .undef, .one .undef, .one .undef, .one .undef, .one .undef, .one .undef, .one .undef, .one .undef, .one .undef, .one .undef, .one .undef, .one .undef, .one .undef, .one .undef, .one .undef, .one .undef, .one .undef, .one .undef, .one .undef, .one .undef, .one .undef, .one .undef, .one .undef, .one .undef, .one .undef, .one .undef, .one .undef, .one .undef, .one .undef, .one .undef, .one .undef, .one .undef, .one .undef, .one .undef, .one .undef, .one .undef, .one .undef, .one .undef, .one .undef, .one .undef, .one .undef, .one .undef, .one .undef, .one .undef, .one .undef]
def L20_3_b : List (List SC) := [[], [], [], [], [], [], [], [], [], [], [], [], [], [], [], [], [], [], [], [], [], [], [], [], [], [], [], [], [], [], [], [], [], [], [], [], [], [], [], [], [], [], [], [], [], [], [], [], [], [], [], [], [], [], [], [], [], [], [], [], [], [], [], [], [], [], [], [], [], [], [], [], [], [], [], [], [], [], [], [], [], [], [], [], [], []]
def L20_3_m (k : Nat) (κ : Res → Option Res) (lf : LoopF) : LoopF := fun p σ K => if pathEq p [true, false, true, false, false, true, false, false, true, true, true, false] = true then (if okSt 86 L20_3_s L20_3_b σ = true then L20_3 k (fun x => κ ((.int .i64 x, []) : Res)) (listOf (.pair .str (.list (.pair .str (.int .i64)))) (nth σ.slots 0)) (intOf (nth σ.slots 3)) (intOf (nth σ.slots 7)) (fun v => K (.exit 6) ⟨86, [.list (.pair .str (.list (.pair .str (.int .i64)))) (listOf (.pair .str (.list (.pair .str (.int .i64)))) (nth σ.slots 0)) .no, .undef, .undef, .int .i64 (intOf (nth σ.slots 3)), .undef, .undef, .undef, .int .i64 v, .undef, .undef, .undef, .undef, .undef, .undef, .undef, .undef, .undef, .undef, .undef, .undef, .undef, .undef, .undef, .undef, .undef, .undef, .undef, .undef, .undef, .undef, .undef, .undef, .undef, .undef, .undef, .undef, .undef, .undef, .undef, .undef, .undef, .undef, .undef, .undef, .undef, .undef, .undef, .undef, .undef, .undef, .undef, .undef, .undef, .undef, .undef, .undef, .undef, .undef, .undef, .undef, .undef, .undef, .undef, .undef, .undef, .undef, .undef, .undef, .undef, .undef, .undef, .undef, .undef, .undef, .undef, .undef, .undef, .undef, .undef, .undef, .undef, .undef, .undef, .undef, .undef, .undef], [[], [], [], [], [], [], [], [], [], [], [], [], [], [], [], [], [], [], [], [], [], [], [], [], [], [], [], [], [], [], [], [], [], [], [], [], [], [], [], [], [], [], [], [], [], [], [], [], [], [], [], [], [], [], [], [], [], [], [], [], [], [], [], [], [], [], [], [], [], [], [], [], [], [], [], [], [], [], [], [], [], [], [], [], [], []]⟩) else lf p σ K) else lf p σ K
theorem L20_3_d (k : Nat) (κ : Res → Option Res) (h : ∀ (p0 : (List (ByteArray × (List (ByteArray × Int))))) (p1 : Int) (p2 : Int) (K : Cont), (ev Try.prog cfg k).loop 20 0 κ [true, false, true, false, false, true, false, false, true, true, true, false] ⟨86, [.list (.pair .str (.list (.pair .str (.int .i64)))) p0 .no, .undef, .undef, .int .i64 p1, .undef, .undef, .undef, .int .i64 p2, .undef, .undef, .undef, .undef, .undef, .undef, .undef, .undef, .undef, .undef, .undef, .undef, .undef, .undef, .undef, .undef, .undef, .undef, .undef, .undef, .undef, .undef, .undef, .undef, .undef, .undef, .undef, .undef, .undef, .undef, .undef, .undef, .undef, .undef, .undef, .undef, .undef, .undef, .undef, .undef, .undef, .undef, .undef, .undef, .undef, .undef, .undef, .undef, .undef, .undef, .undef, .undef, .undef, .undef, .undef, .undef, .undef, .undef, .undef, .undef, .undef, .undef, .undef, .undef, .undef, .undef, .undef, .undef, .undef, .undef, .undef, .undef, .undef, .undef, .undef, .undef, .undef, .undef], [[], [], [], [], [], [], [], [], [], [], [], [], [], [], [], [], [], [], [], [], [], [], [], [], [], [], [], [], [], [], [], [], [], [], [], [], [], [], [], [], [], [], [], [], [], [], [], [], [], [], [], [], [], [], [], [], [], [], [], [], [], [], [], [], [], [], [], [], [], [], [], [], [], [], [], [], [], [], [], [], [], [], [], [], [], []]⟩ K = L20_3 k (fun x => κ ((.int .i64 x, []) : Res)) p0 p1 p2 (fun v => K (.exit 6) ⟨86, [.list (.pair .str (.list (.pair .str (.int .i64)))) p0 .no, .undef, .undef, .int .i64 p1, .undef, .undef, .undef, .int .i64 v, .undef, .undef, .undef, .undef, .undef, .undef, .undef, .undef, .undef, .undef, .undef, .undef, .undef, .undef, .undef, .undef, .undef, .undef, .undef, .undef, .undef, .undef, .undef, .undef, .undef, .undef, .undef, .undef, .undef, .undef, .undef, .undef, .undef, .undef, .undef, .undef, .undef, .undef, .undef, .undef, .undef, .undef, .undef, .undef, .undef, .undef, .undef, .undef, .undef, .undef, .undef, .undef, .undef, .undef, .undef, .undef, .undef, .undef, .undef, .undef, .undef, .undef, .undef, .undef, .undef, .undef, .undef, .undef, .undef, .undef, .undef, .undef, .undef, .undef, .undef, .undef, .undef, .undef], [[], [], [], [], [], [], [], [], [], [], [], [], [], [], [], [], [], [], [], [], [], [], [], [], [], [], [], [], [], [], [], [], [], [], [], [], [], [], [], [], [], [], [], [], [], [], [], [], [], [], [], [], [], [], [], [], [], [], [], [], [], [], [], [], [], [], [], [], [], [], [], [], [], [], [], [], [], [], [], [], [], [], [], [], [], []]⟩)) : L20_3_m k κ ((ev Try.prog cfg k).loop 20 0 κ) = (ev Try.prog cfg k).loop 20 0 κ := by
  funext p σ K
  unfold L20_3_m
  split
  · rename_i hp
    split
    · rename_i hs
      have e : mkSt 86 L20_3_s L20_3_b σ = ⟨86, [.list (.pair .str (.list (.pair .str (.int .i64)))) (listOf (.pair .str (.list (.pair .str (.int .i64)))) (nth σ.slots 0)) .no, .undef, .undef, .int .i64 (intOf (nth σ.slots 3)), .undef, .undef, .undef, .int .i64 (intOf (nth σ.slots 7)), .undef, .undef, .undef, .undef, .undef, .undef, .undef, .undef, .undef, .undef, .undef, .undef, .undef, .undef, .undef, .undef, .undef, .undef, .undef, .undef, .undef, .undef, .undef, .undef, .undef, .undef, .undef, .undef, .undef, .undef, .undef, .undef, .undef, .undef, .undef, .undef, .undef, .undef, .undef, .undef, .undef, .undef, .undef, .undef, .undef, .undef, .undef, .undef, .undef, .undef, .undef, .undef, .undef, .undef, .undef, .undef, .undef, .undef, .undef, .undef, .undef, .undef, .undef, .undef, .undef, .undef, .undef, .undef, .undef, .undef, .undef, .undef, .undef, .undef, .undef, .undef, .undef, .undef], [[], [], [], [], [], [], [], [], [], [], [], [], [], [], [], [], [], [], [], [], [], [], [], [], [], [], [], [], [], [], [], [], [], [], [], [], [], [], [], [], [], [], [], [], [], [], [], [], [], [], [], [], [], [], [], [], [], [], [], [], [], [], [], [], [], [], [], [], [], [], [], [], [], [], [], [], [], [], [], [], [], [], [], [], [], []]⟩ := by kernel_rfl
      rw [pathEq_eq hp]
      exact (h (listOf (.pair .str (.list (.pair .str (.int .i64)))) (nth σ.slots 0)) (intOf (nth σ.slots 3)) (intOf (nth σ.slots 7)) K).symm.trans (congrArg (fun s => (ev Try.prog cfg k).loop 20 0 κ [true, false, true, false, false, true, false, false, true, true, true, false] s K) (e.symm.trans (okSt_eq hs).symm))
    · rfl
  · rfl
theorem L20_3_ev : ∀ (k : Nat) (κ : Res → Option Res) (p0 : (List (ByteArray × (List (ByteArray × Int))))) (p1 : Int) (p2 : Int) (K : Cont), (ev Try.prog cfg k).loop 20 0 κ [true, false, true, false, false, true, false, false, true, true, true, false] ⟨86, [.list (.pair .str (.list (.pair .str (.int .i64)))) p0 .no, .undef, .undef, .int .i64 p1, .undef, .undef, .undef, .int .i64 p2, .undef, .undef, .undef, .undef, .undef, .undef, .undef, .undef, .undef, .undef, .undef, .undef, .undef, .undef, .undef, .undef, .undef, .undef, .undef, .undef, .undef, .undef, .undef, .undef, .undef, .undef, .undef, .undef, .undef, .undef, .undef, .undef, .undef, .undef, .undef, .undef, .undef, .undef, .undef, .undef, .undef, .undef, .undef, .undef, .undef, .undef, .undef, .undef, .undef, .undef, .undef, .undef, .undef, .undef, .undef, .undef, .undef, .undef, .undef, .undef, .undef, .undef, .undef, .undef, .undef, .undef, .undef, .undef, .undef, .undef, .undef, .undef, .undef, .undef, .undef, .undef, .undef, .undef], [[], [], [], [], [], [], [], [], [], [], [], [], [], [], [], [], [], [], [], [], [], [], [], [], [], [], [], [], [], [], [], [], [], [], [], [], [], [], [], [], [], [], [], [], [], [], [], [], [], [], [], [], [], [], [], [], [], [], [], [], [], [], [], [], [], [], [], [], [], [], [], [], [], [], [], [], [], [], [], [], [], [], [], [], [], []]⟩ K = L20_3 k (fun x => κ ((.int .i64 x, []) : Res)) p0 p1 p2 (fun v => K (.exit 6) ⟨86, [.list (.pair .str (.list (.pair .str (.int .i64)))) p0 .no, .undef, .undef, .int .i64 p1, .undef, .undef, .undef, .int .i64 v, .undef, .undef, .undef, .undef, .undef, .undef, .undef, .undef, .undef, .undef, .undef, .undef, .undef, .undef, .undef, .undef, .undef, .undef, .undef, .undef, .undef, .undef, .undef, .undef, .undef, .undef, .undef, .undef, .undef, .undef, .undef, .undef, .undef, .undef, .undef, .undef, .undef, .undef, .undef, .undef, .undef, .undef, .undef, .undef, .undef, .undef, .undef, .undef, .undef, .undef, .undef, .undef, .undef, .undef, .undef, .undef, .undef, .undef, .undef, .undef, .undef, .undef, .undef, .undef, .undef, .undef, .undef, .undef, .undef, .undef, .undef, .undef, .undef, .undef, .undef, .undef, .undef, .undef], [[], [], [], [], [], [], [], [], [], [], [], [], [], [], [], [], [], [], [], [], [], [], [], [], [], [], [], [], [], [], [], [], [], [], [], [], [], [], [], [], [], [], [], [], [], [], [], [], [], [], [], [], [], [], [], [], [], [], [], [], [], [], [], [], [], [], [], [], [], [], [], [], [], [], [], [], [], [], [], [], [], [], [], [], [], []]⟩) := by
  intro k κ
  induction k with
  | zero => intro p0 p1 p2 K; rfl
  | succ k ih =>
    intro p0 p1 p2 K
    rw [ev_loop, ← L20_3_d k κ ih]
    kernel_rfl
def L20_2 : Nat → (Int → Option Res) → (List (ByteArray × (List (ByteArray × Int)))) → Int → Int → Int → ByteArray → Int → (Int → Option Res) → Option Res
  | 0, _, _, _, _, _, _, _, _ => none
  | k + 1, κ, p0, p1, p2, p3, p4, p5, K =>
  if decide (p3 < p2) = true then
   (if (decide ((0 : Int) ≤ p1) && decide (p1 < (p0.length : Int))) = true then
    (if (decide ((0 : Int) ≤ p3) && decide (p3 < (((p0.getD p1.toNat ((⟨#[]⟩ : ByteArray), ([] : List (ByteArray × Int)))).2).length : Int))) = true then
     (if (((((p0.getD p1.toNat ((⟨#[]⟩ : ByteArray), ([] : List (ByteArray × Int)))).2).getD p3.toNat ((⟨#[]⟩ : ByteArray), (0 : Int))).1).toList == p4.toList) = true then
      (κ (1 : Int))
     else
      (L20_2 k κ p0 p1 p2 (IntKind.wrap .i64 (p3 + (1 : Int))) p4 p5 K))
    else
     (none))
   else
    (none))
  else
   (K p3)
def L20_2_s : List SC := [.one (.list (.pair .str (.list (.pair .str (.int .i64)))) .no), .one .undef, .one .undef, .one (.int .i64), .one (.int .i64), .one (.ref 5 0), .one (.int .i64), .one .undef, .one .undef, .one .undef, .one .undef, .one .undef, .one .undef, .one .undef, .one .undef, .one .undef, .one .undef, .one .undef, .one .undef, .one .undef, .one .undef, .one .undef, .one .undef, .one .undef, .one .undef, .one .undef, .one .undef, .one .undef, .one .undef, .one .undef, .one .undef, .one .undef, .one .undef, .one .undef, .one .undef, .one .undef, .one .undef, .one .undef, .one .undef, .one .undef, .one .undef, .one .undef, .one .undef, .one .undef, .one .undef, .one .undef, .one .undef, .one .undef, .one .undef, .one .undef, .one .undef, .one .undef, .one .undef, .one .undef, .one .undef, .one .undef, .one .undef, .one .undef, .one .undef, .one .undef, .one .undef, .one .undef, .one .undef, .one .undef, .one .undef, .one .undef, .one .undef, .one .undef, .one .undef, .one .undef, .one .undef, .one .undef, .one .undef, .one .undef, .one .undef, .one .undef, .one .undef, .one .undef, .one .undef, .one .undef, .one .undef, .one .undef, .one .undef, .one .undef, .one .undef, .one .undef]
def L20_2_b : List (List SC) := [[], [], [], [], [], [.one .str, .one (.int .i64)], [], [], [], [], [], [], [], [], [], [], [], [], [], [], [], [], [], [], [], [], [], [], [], [], [], [], [], [], [], [], [], [], [], [], [], [], [], [], [], [], [], [], [], [], [], [], [], [], [], [], [], [], [], [], [], [], [], [], [], [], [], [], [], [], [], [], [], [], [], [], [], [], [], [], [], [], [], [], [], []]
def L20_2_m (k : Nat) (κ : Res → Option Res) (lf : LoopF) : LoopF := fun p σ K => if pathEq p [true, false, true, false, false, true, false, false, true, false, true, false, false, true, false, false, true, true, true, false] = true then (if okSt 86 L20_2_s L20_2_b σ = true then L20_2 k (fun x => κ ((.int .i64 x, []) : Res)) (listOf (.pair .str (.list (.pair .str (.int .i64)))) (nth σ.slots 0)) (intOf (nth σ.slots 3)) (intOf (nth σ.slots 4)) (intOf (nth σ.slots 6)) (stringOf (nth (nthB σ.boxes 5) 0)) (intOf (nth (nthB σ.boxes 5) 1)) (fun v => K (.exit 4) ⟨86, [.list (.pair .str (.list (.pair .str (.int .i64)))) (listOf (.pair .str (.list (.pair .str (.int .i64)))) (nth σ.slots 0)) .no, .undef, .undef, .int .i64 (intOf (nth σ.slots 3)), .int .i64 (intOf (nth σ.slots 4)), .ref 5 0, .int .i64 v, .undef, .undef, .undef, .undef, .undef, .undef, .undef, .undef, .undef, .undef, .undef, .undef, .undef, .undef, .undef, .undef, .undef, .undef, .undef, .undef, .undef, .undef, .undef, .undef, .undef, .undef, .undef, .undef, .undef, .undef, .undef, .undef, .undef, .undef, .undef, .undef, .undef, .undef, .undef, .undef, .undef, .undef, .undef, .undef, .undef, .undef, .undef, .undef, .undef, .undef, .undef, .undef, .undef, .undef, .undef, .undef, .undef, .undef, .undef, .undef, .undef, .undef, .undef, .undef, .undef, .undef, .undef, .undef, .undef, .undef, .undef, .undef, .undef, .undef, .undef, .undef, .undef, .undef, .undef], [[], [], [], [], [], [.str (stringOf (nth (nthB σ.boxes 5) 0)), .int .i64 (intOf (nth (nthB σ.boxes 5) 1))], [], [], [], [], [], [], [], [], [], [], [], [], [], [], [], [], [], [], [], [], [], [], [], [], [], [], [], [], [], [], [], [], [], [], [], [], [], [], [], [], [], [], [], [], [], [], [], [], [], [], [], [], [], [], [], [], [], [], [], [], [], [], [], [], [], [], [], [], [], [], [], [], [], [], [], [], [], [], [], []]⟩) else lf p σ K) else lf p σ K
theorem L20_2_d (k : Nat) (κ : Res → Option Res) (h : ∀ (p0 : (List (ByteArray × (List (ByteArray × Int))))) (p1 : Int) (p2 : Int) (p3 : Int) (p4 : ByteArray) (p5 : Int) (K : Cont), (ev Try.prog cfg k).loop 20 0 κ [true, false, true, false, false, true, false, false, true, false, true, false, false, true, false, false, true, true, true, false] ⟨86, [.list (.pair .str (.list (.pair .str (.int .i64)))) p0 .no, .undef, .undef, .int .i64 p1, .int .i64 p2, .ref 5 0, .int .i64 p3, .undef, .undef, .undef, .undef, .undef, .undef, .undef, .undef, .undef, .undef, .undef, .undef, .undef, .undef, .undef, .undef, .undef, .undef, .undef, .undef, .undef, .undef, .undef, .undef, .undef, .undef, .undef, .undef, .undef, .undef, .undef, .undef, .undef, .undef, .undef, .undef, .undef, .undef, .undef, .undef, .undef, .undef, .undef, .undef, .undef, .undef, .undef, .undef, .undef, .undef, .undef, .undef, .undef, .undef, .undef, .undef, .undef, .undef, .undef, .undef, .undef, .undef, .undef, .undef, .undef, .undef, .undef, .undef, .undef, .undef, .undef, .undef, .undef, .undef, .undef, .undef, .undef, .undef, .undef], [[], [], [], [], [], [.str p4, .int .i64 p5], [], [], [], [], [], [], [], [], [], [], [], [], [], [], [], [], [], [], [], [], [], [], [], [], [], [], [], [], [], [], [], [], [], [], [], [], [], [], [], [], [], [], [], [], [], [], [], [], [], [], [], [], [], [], [], [], [], [], [], [], [], [], [], [], [], [], [], [], [], [], [], [], [], [], [], [], [], [], [], []]⟩ K = L20_2 k (fun x => κ ((.int .i64 x, []) : Res)) p0 p1 p2 p3 p4 p5 (fun v => K (.exit 4) ⟨86, [.list (.pair .str (.list (.pair .str (.int .i64)))) p0 .no, .undef, .undef, .int .i64 p1, .int .i64 p2, .ref 5 0, .int .i64 v, .undef, .undef, .undef, .undef, .undef, .undef, .undef, .undef, .undef, .undef, .undef, .undef, .undef, .undef, .undef, .undef, .undef, .undef, .undef, .undef, .undef, .undef, .undef, .undef, .undef, .undef, .undef, .undef, .undef, .undef, .undef, .undef, .undef, .undef, .undef, .undef, .undef, .undef, .undef, .undef, .undef, .undef, .undef, .undef, .undef, .undef, .undef, .undef, .undef, .undef, .undef, .undef, .undef, .undef, .undef, .undef, .undef, .undef, .undef, .undef, .undef, .undef, .undef, .undef, .undef, .undef, .undef, .undef, .undef, .undef, .undef, .undef, .undef, .undef, .undef, .undef, .undef, .undef, .undef], [[], [], [], [], [], [.str p4, .int .i64 p5], [], [], [], [], [], [], [], [], [], [], [], [], [], [], [], [], [], [], [], [], [], [], [], [], [], [], [], [], [], [], [], [], [], [], [], [], [], [], [], [], [], [], [], [], [], [], [], [], [], [], [], [], [], [], [], [], [], [], [], [], [], [], [], [], [], [], [], [], [], [], [], [], [], [], [], [], [], [], [], []]⟩)) : L20_2_m k κ ((ev Try.prog cfg k).loop 20 0 κ) = (ev Try.prog cfg k).loop 20 0 κ := by
  funext p σ K
  unfold L20_2_m
  split
  · rename_i hp
    split
    · rename_i hs
      have e : mkSt 86 L20_2_s L20_2_b σ = ⟨86, [.list (.pair .str (.list (.pair .str (.int .i64)))) (listOf (.pair .str (.list (.pair .str (.int .i64)))) (nth σ.slots 0)) .no, .undef, .undef, .int .i64 (intOf (nth σ.slots 3)), .int .i64 (intOf (nth σ.slots 4)), .ref 5 0, .int .i64 (intOf (nth σ.slots 6)), .undef, .undef, .undef, .undef, .undef, .undef, .undef, .undef, .undef, .undef, .undef, .undef, .undef, .undef, .undef, .undef, .undef, .undef, .undef, .undef, .undef, .undef, .undef, .undef, .undef, .undef, .undef, .undef, .undef, .undef, .undef, .undef, .undef, .undef, .undef, .undef, .undef, .undef, .undef, .undef, .undef, .undef, .undef, .undef, .undef, .undef, .undef, .undef, .undef, .undef, .undef, .undef, .undef, .undef, .undef, .undef, .undef, .undef, .undef, .undef, .undef, .undef, .undef, .undef, .undef, .undef, .undef, .undef, .undef, .undef, .undef, .undef, .undef, .undef, .undef, .undef, .undef, .undef, .undef], [[], [], [], [], [], [.str (stringOf (nth (nthB σ.boxes 5) 0)), .int .i64 (intOf (nth (nthB σ.boxes 5) 1))], [], [], [], [], [], [], [], [], [], [], [], [], [], [], [], [], [], [], [], [], [], [], [], [], [], [], [], [], [], [], [], [], [], [], [], [], [], [], [], [], [], [], [], [], [], [], [], [], [], [], [], [], [], [], [], [], [], [], [], [], [], [], [], [], [], [], [], [], [], [], [], [], [], [], [], [], [], [], [], []]⟩ := by kernel_rfl
      rw [pathEq_eq hp]
      exact (h (listOf (.pair .str (.list (.pair .str (.int .i64)))) (nth σ.slots 0)) (intOf (nth σ.slots 3)) (intOf (nth σ.slots 4)) (intOf (nth σ.slots 6)) (stringOf (nth (nthB σ.boxes 5) 0)) (intOf (nth (nthB σ.boxes 5) 1)) K).symm.trans (congrArg (fun s => (ev Try.prog cfg k).loop 20 0 κ [true, false, true, false, false, true, false, false, true, false, true, false, false, true, false, false, true, true, true, false] s K) (e.symm.trans (okSt_eq hs).symm))
    · rfl
  · rfl
theorem L20_2_ev : ∀ (k : Nat) (κ : Res → Option Res) (p0 : (List (ByteArray × (List (ByteArray × Int))))) (p1 : Int) (p2 : Int) (p3 : Int) (p4 : ByteArray) (p5 : Int) (K : Cont), (ev Try.prog cfg k).loop 20 0 κ [true, false, true, false, false, true, false, false, true, false, true, false, false, true, false, false, true, true, true, false] ⟨86, [.list (.pair .str (.list (.pair .str (.int .i64)))) p0 .no, .undef, .undef, .int .i64 p1, .int .i64 p2, .ref 5 0, .int .i64 p3, .undef, .undef, .undef, .undef, .undef, .undef, .undef, .undef, .undef, .undef, .undef, .undef, .undef, .undef, .undef, .undef, .undef, .undef, .undef, .undef, .undef, .undef, .undef, .undef, .undef, .undef, .undef, .undef, .undef, .undef, .undef, .undef, .undef, .undef, .undef, .undef, .undef, .undef, .undef, .undef, .undef, .undef, .undef, .undef, .undef, .undef, .undef, .undef, .undef, .undef, .undef, .undef, .undef, .undef, .undef, .undef, .undef, .undef, .undef, .undef, .undef, .undef, .undef, .undef, .undef, .undef, .undef, .undef, .undef, .undef, .undef, .undef, .undef, .undef, .undef, .undef, .undef, .undef, .undef], [[], [], [], [], [], [.str p4, .int .i64 p5], [], [], [], [], [], [], [], [], [], [], [], [], [], [], [], [], [], [], [], [], [], [], [], [], [], [], [], [], [], [], [], [], [], [], [], [], [], [], [], [], [], [], [], [], [], [], [], [], [], [], [], [], [], [], [], [], [], [], [], [], [], [], [], [], [], [], [], [], [], [], [], [], [], [], [], [], [], [], [], []]⟩ K = L20_2 k (fun x => κ ((.int .i64 x, []) : Res)) p0 p1 p2 p3 p4 p5 (fun v => K (.exit 4) ⟨86, [.list (.pair .str (.list (.pair .str (.int .i64)))) p0 .no, .undef, .undef, .int .i64 p1, .int .i64 p2, .ref 5 0, .int .i64 v, .undef, .undef, .undef, .undef, .undef, .undef, .undef, .undef, .undef, .undef, .undef, .undef, .undef, .undef, .undef, .undef, .undef, .undef, .undef, .undef, .undef, .undef, .undef, .undef, .undef, .undef, .undef, .undef, .undef, .undef, .undef, .undef, .undef, .undef, .undef, .undef, .undef, .undef, .undef, .undef, .undef, .undef, .undef, .undef, .undef, .undef, .undef, .undef, .undef, .undef, .undef, .undef, .undef, .undef, .undef, .undef, .undef, .undef, .undef, .undef, .undef, .undef, .undef, .undef, .undef, .undef, .undef, .undef, .undef, .undef, .undef, .undef, .undef, .undef, .undef, .undef, .undef, .undef, .undef], [[], [], [], [], [], [.str p4, .int .i64 p5], [], [], [], [], [], [], [], [], [], [], [], [], [], [], [], [], [], [], [], [], [], [], [], [], [], [], [], [], [], [], [], [], [], [], [], [], [], [], [], [], [], [], [], [], [], [], [], [], [], [], [], [], [], [], [], [], [], [], [], [], [], [], [], [], [], [], [], [], [], [], [], [], [], [], [], [], [], [], [], []]⟩) := by
  intro k κ
  induction k with
  | zero => intro p0 p1 p2 p3 p4 p5 K; rfl
  | succ k ih =>
    intro p0 p1 p2 p3 p4 p5 K
    rw [ev_loop, ← L20_2_d k κ ih]
    kernel_rfl
end Go.Proofs.Ytcnoaflojojfkac.SchF
