/- The functions that 'lamplighter/lamplighterlaw03.SchemaMost' reaches, over lists and numbers, and that the machine of values comes to them (printed by wip/vm/gen.py). No condition. -/
import Derived.Test.YtcnoaflojojfkacVmShape
import Derived.Test.YtcnoaflojojfkacProg
import Derived.KernelRfl
namespace Go.Proofs.Ytcnoaflojojfkac.SchM
open Go Go.Proofs.Ytcnoaflojojfkac.Vm
set_option linter.unusedVariables false
set_option maxRecDepth 100000
def tab : List Row := [
  ⟨3, false, [.int .i64], (.int .i64), 8, .flat⟩,
  ⟨4, false, [.bool], .bool, 1, .flat⟩,
  ⟨5, false, [.int .u8], (.int .u8), 1, .flat⟩,
  ⟨9, false, [.str], .str, 16, .flat⟩,
  ⟨22, false, [.list .str], (.list .str), 24, .slice 9⟩,
  ⟨26, false, [.list (.pair .str (.list (.pair .str (.int .i64))))], (.list (.pair .str (.list (.pair .str (.int .i64))))), 24, .slice 37⟩,
  ⟨28, false, [.ptr], .unit, 8, .flat⟩,
  ⟨29, false, [.int .i64], (.int .i64), 8, .flat⟩,
  ⟨35, false, [.list (.pair .str (.int .i64))], (.list (.pair .str (.int .i64))), 24, .slice 43⟩,
  ⟨37, true, [.str, .list (.pair .str (.int .i64))], (.pair .str (.list (.pair .str (.int .i64)))), 40, .struct [(0, 9), (1, 35)]⟩,
  ⟨43, true, [.str, .int .i64], (.pair .str (.int .i64)), 24, .struct [(0, 9), (1, 3)]⟩,
  ⟨45, false, [.list (.int .u8)], (.list (.int .u8)), 24, .slice 5⟩,
  ⟨128, true, [.list (.pair .str (.list (.pair .str (.int .i64))))], (.list (.pair .str (.list (.pair .str (.int .i64))))), 24, .struct [(0, 26)]⟩,
  ⟨152, false, [.fn], .unit, 8, .flat⟩]
def pathEq' : List Bool → List Bool → Bool
  | [], [] => true
  | true :: p, true :: q => pathEq' p q
  | false :: p, false :: q => pathEq' p q
  | _, _ => false
def cfg : Cfg := ⟨tab, fun f => 2, fun f => if Nat.beq f 81 = true then 2 else 0, fun f => if Nat.beq f 5 = true then [4, 5, 6, 7, 8, 10, 11, 12, 13, 14, 16, 17, 18, 46, 56, 64, 69, 74] else if Nat.beq f 15 = true then [0, 1, 2, 3, 4, 5, 10] else if Nat.beq f 16 = true then [2, 3, 4, 5] else if Nat.beq f 19 = true then [2, 3, 4, 8, 30, 42, 54] else if Nat.beq f 21 = true then [2, 3, 4, 10, 22] else if Nat.beq f 22 = true then [2] else if Nat.beq f 23 = true then [5] else if Nat.beq f 24 = true then [6, 7, 9, 10, 12, 30, 32] else if Nat.beq f 78 = true then [0] else if Nat.beq f 79 = true then [2] else if Nat.beq f 80 = true then [2, 3] else if Nat.beq f 108 = true then [4] else if Nat.beq f 109 = true then [3] else if Nat.beq f 121 = true then [4, 5, 17] else [], fun f => if Nat.beq f 5 = true then [4, 5, 6, 7, 8, 10, 11, 13, 14, 16, 17] else if Nat.beq f 15 = true then [0, 1, 2, 3, 4] else if Nat.beq f 16 = true then [2, 3, 4, 5] else if Nat.beq f 19 = true then [2, 3, 4, 8] else if Nat.beq f 21 = true then [2, 3, 4] else if Nat.beq f 22 = true then [2] else if Nat.beq f 23 = true then [5] else if Nat.beq f 24 = true then [6, 7, 10] else if Nat.beq f 78 = true then [0] else if Nat.beq f 79 = true then [2] else if Nat.beq f 80 = true then [2, 3] else if Nat.beq f 108 = true then [4] else if Nat.beq f 109 = true then [3] else if Nat.beq f 121 = true then [4, 5] else [], fun f p => if Nat.beq f 16 = true then (if pathEq' p [true, true, false, true, false] = true then [1, 2, 3, 4, 5, 6, 7, 8, 9, 10, 11, 12, 13, 14, 15, 16, 17, 18, 19, 22, 23, 24, 25, 26, 27, 28, 29, 30, 31, 32, 33, 34, 35, 36, 37, 38, 39, 40, 41, 42, 43, 44, 45, 46, 47, 48, 49, 50, 51, 52, 53, 54, 55, 56, 57] else if pathEq' p [true, true, true, false, true, false] = true then [1, 2, 3, 4, 5, 6, 7, 8, 9, 10, 11, 12, 13, 14, 15, 16, 17, 18, 19, 20, 21, 22, 23, 24, 25, 26, 27, 28, 29, 30, 31, 32, 33, 34, 35, 36, 37, 38, 39, 40, 41, 44, 45, 46, 47, 48, 49, 50, 51, 52, 53, 54, 55, 56, 57] else []) else if Nat.beq f 121 = true then (if pathEq' p [true, false, true, false] = true then [2, 3, 4, 5, 6, 9, 10, 11, 12, 13, 14, 15, 16, 17, 18] else []) else if Nat.beq f 80 = true then (if pathEq' p [true, true, false, true, false] = true then [1, 2, 3, 4, 5, 6, 7, 11, 12, 13, 14, 15, 16, 17, 18, 19, 20, 21, 22, 23, 24, 25, 26, 27, 28, 29, 30, 31, 32, 33, 34] else []) else if Nat.beq f 23 = true then (if pathEq' p [true, true, false, true, false] = true then [0, 2, 3, 5, 6, 7, 8, 9, 10, 11, 12, 13, 17, 18, 19, 20, 21, 22, 23, 24, 25, 26, 27, 28, 29, 30, 31] else []) else if Nat.beq f 19 = true then (if pathEq' p [true, true, true, false, true, false] = true then [0, 1, 2, 3, 5, 6, 7, 8, 9, 10, 11, 12, 17, 18, 19, 20, 21, 22, 23, 24, 25, 26, 27, 28, 29, 30, 31, 32, 33, 34, 35, 36, 37, 38, 39, 40, 41, 42, 43, 44, 45, 46, 47, 48, 49, 50, 51, 52, 53, 54] else []) else if Nat.beq f 24 = true then (if pathEq' p [true, true, false, true, false] = true then [0, 1, 3, 4, 5, 6, 7, 8, 9, 10, 11, 12, 13, 14, 15, 16, 17, 18, 22, 23, 24, 25, 26, 27, 28, 29, 30, 31, 32, 33] else []) else if Nat.beq f 21 = true then (if pathEq' p [true, true, false, true, false] = true then [1, 2, 4, 5, 8, 9, 10, 11, 12, 13, 14, 15, 16, 17, 18, 19, 20, 21, 22] else []) else if Nat.beq f 5 = true then (if pathEq' p [true, true, true, true, false, true, false] = true then [0, 1, 2, 3, 4, 9, 10, 11, 12, 13, 14, 15, 16, 17, 18, 19, 20, 21, 22, 23, 24, 25, 26, 27, 28, 29, 30, 31, 32, 33, 34, 35, 36, 37, 38, 39, 40, 41, 42, 43, 44, 45, 46, 47, 48, 49, 50, 51, 52, 53, 54, 55, 56, 57, 58, 59, 60, 61, 62, 63, 64, 65, 66, 67, 68, 69, 70, 71, 72, 73, 74, 75, 76, 77, 78, 79, 80, 81, 82, 83, 84, 85, 86, 87, 88, 89, 90, 91, 92, 93, 94, 95, 96, 97, 98, 99, 100, 101, 102, 103] else if pathEq' p [true, true, true, true, false, true, false, false, true, false, false, true, false, true, false] = true then [0, 1, 2, 3, 4, 11, 12, 13, 14, 15, 16, 17, 18, 19, 20, 21, 22, 23, 24, 25, 26, 27, 28, 29, 30, 31, 32, 33, 34, 35, 36, 37, 38, 39, 40, 41, 42, 43, 44, 45, 46, 47, 48, 49, 50, 51, 52, 53, 54, 55, 56, 57, 58, 59, 60, 61, 62, 63, 64, 65, 66, 67, 68, 69, 70, 71, 72, 73, 74, 75, 76, 77, 78, 79, 80, 81, 82, 83, 84, 85, 86, 87, 88, 89, 90, 91, 92, 93, 94, 95, 96, 97, 98, 99, 100, 101, 102, 103] else []) else [], fun f p => [], fun f p => []⟩
/-- lamplighter/schema.letter -/
def F79 : Nat → Int → (Bool → Option Res) → Option Res
  | 0, _, _ => none
  | k + 1, a0, κ =>
  if decide (a0 ≥ (97 : Int)) = true then
   (if decide (a0 ≤ (122 : Int)) = true then
    (κ true)
   else
    (if decide (a0 ≥ (65 : Int)) = true then
     (if decide (a0 ≤ (90 : Int)) = true then
      (κ true)
     else
      (κ (a0 == (95 : Int))))
    else
     (κ (a0 == (95 : Int)))))
  else
   (if decide (a0 ≥ (65 : Int)) = true then
    (if decide (a0 ≤ (90 : Int)) = true then
     (κ true)
    else
     (κ (a0 == (95 : Int))))
   else
    (κ (a0 == (95 : Int))))
def F79_s : List SC := [.one (.int .u8)]
def F79_b : List (List SC) := []
def F79_m (k : Nat) (cf : CallF) : CallF := fun f args lent κ => if Nat.beq f 79 = true then (if (okC F79_s args && okB F79_b lent) = true then F79 k (intOf (nth args 0)) (fun x => κ ((.bool x, []) : Res)) else cf f args lent κ) else cf f args lent κ
theorem F79_d (k : Nat) (h : ∀ (a0 : Int) (κ : Res → Option Res), (ev Try.prog cfg k).call 79 [.int .u8 a0] [] κ = F79 k a0 (fun x => κ ((.bool x, []) : Res))) : F79_m k (ev Try.prog cfg k).call = (ev Try.prog cfg k).call := by
  funext f args lent κ
  unfold F79_m
  split
  · rename_i hp
    split
    · rename_i hs
      rw [Bool.and_eq_true] at hs
      have e : mkC F79_s 0 args = [.int .u8 (intOf (nth args 0))] := by kernel_rfl
      have e' : mkB F79_b 0 lent = [] := by kernel_rfl
      obtain rfl := Nat.eq_of_beq_eq_true hp
      exact (h (intOf (nth args 0)) κ).symm.trans (cong2 (fun a l => (ev Try.prog cfg k).call 79 a l κ) (e.symm.trans (okC_eq hs.1).symm) (e'.symm.trans (okB_eq hs.2).symm))
    · rfl
  · rfl
theorem F79_ev : ∀ (k : Nat) (a0 : Int) (κ : Res → Option Res), (ev Try.prog cfg k).call 79 [.int .u8 a0] [] κ = F79 k a0 (fun x => κ ((.bool x, []) : Res)) := by
  intro k
  induction k with
  | zero => intros; rfl
  | succ k ih =>
    intro a0 κ
    refine (ev_call' Try.prog cfg k 79 0 _ _ κ (by rfl)).trans ?_
    skip
    kernel_rfl
def L16_1 : Nat → (Bool → Option Res) → ByteArray → Int → Int → (Int → Option Res) → Option Res
  | 0, _, _, _, _, _ => none
  | k + 1, κ, p0, p1, p2, K =>
  if decide (p2 < p1) = true then
   (if (decide ((0 : Int) ≤ p2) && (decide (p2 ≤ (IntKind.wrap .i64 ((IntKind.wrap .i64 (p2 + (p0.size : Int))) + (2 : Int)))) && decide ((IntKind.wrap .i64 ((IntKind.wrap .i64 (p2 + (p0.size : Int))) + (2 : Int))) ≤ ((⟨#[32, 83, 69, 81, 32, 87, 72, 69, 82, 69, 32, 87, 73, 84, 72, 73, 78, 32, 67, 65, 80, 32, 97, 110, 100, 32, 111, 114, 32, 110, 111, 116, 32, 116, 114, 117, 101, 32, 102, 97, 108, 115, 101, 32]⟩ : ByteArray).size : Int)))) = true then
    (if decide ((⟨#[32]⟩ : ByteArray).size + p0.size ≤ 9223372036854775807) = true then
     (if decide (((⟨#[32]⟩ : ByteArray) ++ p0).size + (⟨#[32]⟩ : ByteArray).size ≤ 9223372036854775807) = true then
      (if (((⟨#[32, 83, 69, 81, 32, 87, 72, 69, 82, 69, 32, 87, 73, 84, 72, 73, 78, 32, 67, 65, 80, 32, 97, 110, 100, 32, 111, 114, 32, 110, 111, 116, 32, 116, 114, 117, 101, 32, 102, 97, 108, 115, 101, 32]⟩ : ByteArray).extract p2.toNat (IntKind.wrap .i64 ((IntKind.wrap .i64 (p2 + (p0.size : Int))) + (2 : Int))).toNat).toList == (((⟨#[32]⟩ : ByteArray) ++ p0) ++ (⟨#[32]⟩ : ByteArray)).toList) = true then
       (κ false)
      else
       (L16_1 k κ p0 p1 (IntKind.wrap .i64 (p2 + (1 : Int))) K))
     else
      (none))
    else
     (none))
   else
    (none))
  else
   (K p2)
def L16_1_s : List SC := [.one .str, .one .undef, .one .undef, .one .undef, .one .undef, .one .undef, .one .undef, .one .undef, .one .undef, .one .undef, .one .undef, .one .undef, .one .undef, .one .undef, .one .undef, .one .undef, .one .undef, .one .undef, .one .undef, .one .undef, .one .undef, .one .undef, .one .undef, .one .undef, .one .undef, .one .undef, .one .undef, .one .undef, .one .undef, .one .undef, .one .undef, .one .undef, .one .undef, .one .undef, .one .undef, .one .undef, .one .undef, .one .undef, .one .undef, .one .undef, .one .undef, .one .undef, .one (.int .i64), .one (.int .i64), .one .undef, .one .undef, .one .undef, .one .undef, .one .undef, .one .undef, .one .undef, .one .undef, .one .undef, .one .undef, .one .undef, .one .undef, .one .undef, .one .undef]
def L16_1_b : List (List SC) := [[], [], [], [], [], [], [], [], [], [], [], [], [], [], [], [], [], [], [], [], [], [], [], [], [], [], [], [], [], [], [], [], [], [], [], [], [], [], [], [], [], [], [], [], [], [], [], [], [], [], [], [], [], [], [], [], [], []]
def L16_1_m (k : Nat) (κ : Res → Option Res) (lf : LoopF) : LoopF := fun p σ K => if pathEq p [true, true, true, false, true, false] = true then (if okSt 58 L16_1_s L16_1_b σ = true then L16_1 k (fun x => κ ((.bool x, []) : Res)) (stringOf (nth σ.slots 0)) (intOf (nth σ.slots 42)) (intOf (nth σ.slots 43)) (fun v => K (.exit 2) ⟨58, [.str (stringOf (nth σ.slots 0)), .undef, .undef, .undef, .undef, .undef, .undef, .undef, .undef, .undef, .undef, .undef, .undef, .undef, .undef, .undef, .undef, .undef, .undef, .undef, .undef, .undef, .undef, .undef, .undef, .undef, .undef, .undef, .undef, .undef, .undef, .undef, .undef, .undef, .undef, .undef, .undef, .undef, .undef, .undef, .undef, .undef, .int .i64 (intOf (nth σ.slots 42)), .int .i64 v, .undef, .undef, .undef, .undef, .undef, .undef, .undef, .undef, .undef, .undef, .undef, .undef, .undef, .undef], [[], [], [], [], [], [], [], [], [], [], [], [], [], [], [], [], [], [], [], [], [], [], [], [], [], [], [], [], [], [], [], [], [], [], [], [], [], [], [], [], [], [], [], [], [], [], [], [], [], [], [], [], [], [], [], [], [], []]⟩) else lf p σ K) else lf p σ K
theorem L16_1_d (k : Nat) (κ : Res → Option Res) (h : ∀ (p0 : ByteArray) (p1 : Int) (p2 : Int) (K : Cont), (ev Try.prog cfg k).loop 16 0 κ [true, true, true, false, true, false] ⟨58, [.str p0, .undef, .undef, .undef, .undef, .undef, .undef, .undef, .undef, .undef, .undef, .undef, .undef, .undef, .undef, .undef, .undef, .undef, .undef, .undef, .undef, .undef, .undef, .undef, .undef, .undef, .undef, .undef, .undef, .undef, .undef, .undef, .undef, .undef, .undef, .undef, .undef, .undef, .undef, .undef, .undef, .undef, .int .i64 p1, .int .i64 p2, .undef, .undef, .undef, .undef, .undef, .undef, .undef, .undef, .undef, .undef, .undef, .undef, .undef, .undef], [[], [], [], [], [], [], [], [], [], [], [], [], [], [], [], [], [], [], [], [], [], [], [], [], [], [], [], [], [], [], [], [], [], [], [], [], [], [], [], [], [], [], [], [], [], [], [], [], [], [], [], [], [], [], [], [], [], []]⟩ K = L16_1 k (fun x => κ ((.bool x, []) : Res)) p0 p1 p2 (fun v => K (.exit 2) ⟨58, [.str p0, .undef, .undef, .undef, .undef, .undef, .undef, .undef, .undef, .undef, .undef, .undef, .undef, .undef, .undef, .undef, .undef, .undef, .undef, .undef, .undef, .undef, .undef, .undef, .undef, .undef, .undef, .undef, .undef, .undef, .undef, .undef, .undef, .undef, .undef, .undef, .undef, .undef, .undef, .undef, .undef, .undef, .int .i64 p1, .int .i64 v, .undef, .undef, .undef, .undef, .undef, .undef, .undef, .undef, .undef, .undef, .undef, .undef, .undef, .undef], [[], [], [], [], [], [], [], [], [], [], [], [], [], [], [], [], [], [], [], [], [], [], [], [], [], [], [], [], [], [], [], [], [], [], [], [], [], [], [], [], [], [], [], [], [], [], [], [], [], [], [], [], [], [], [], [], [], []]⟩)) : L16_1_m k κ ((ev Try.prog cfg k).loop 16 0 κ) = (ev Try.prog cfg k).loop 16 0 κ := by
  funext p σ K
  unfold L16_1_m
  split
  · rename_i hp
    split
    · rename_i hs
      have e : mkSt 58 L16_1_s L16_1_b σ = ⟨58, [.str (stringOf (nth σ.slots 0)), .undef, .undef, .undef, .undef, .undef, .undef, .undef, .undef, .undef, .undef, .undef, .undef, .undef, .undef, .undef, .undef, .undef, .undef, .undef, .undef, .undef, .undef, .undef, .undef, .undef, .undef, .undef, .undef, .undef, .undef, .undef, .undef, .undef, .undef, .undef, .undef, .undef, .undef, .undef, .undef, .undef, .int .i64 (intOf (nth σ.slots 42)), .int .i64 (intOf (nth σ.slots 43)), .undef, .undef, .undef, .undef, .undef, .undef, .undef, .undef, .undef, .undef, .undef, .undef, .undef, .undef], [[], [], [], [], [], [], [], [], [], [], [], [], [], [], [], [], [], [], [], [], [], [], [], [], [], [], [], [], [], [], [], [], [], [], [], [], [], [], [], [], [], [], [], [], [], [], [], [], [], [], [], [], [], [], [], [], [], []]⟩ := by kernel_rfl
      rw [pathEq_eq hp]
      exact (h (stringOf (nth σ.slots 0)) (intOf (nth σ.slots 42)) (intOf (nth σ.slots 43)) K).symm.trans (congrArg (fun s => (ev Try.prog cfg k).loop 16 0 κ [true, true, true, false, true, false] s K) (e.symm.trans (okSt_eq hs).symm))
    · rfl
  · rfl
theorem L16_1_ev : ∀ (k : Nat) (κ : Res → Option Res) (p0 : ByteArray) (p1 : Int) (p2 : Int) (K : Cont), (ev Try.prog cfg k).loop 16 0 κ [true, true, true, false, true, false] ⟨58, [.str p0, .undef, .undef, .undef, .undef, .undef, .undef, .undef, .undef, .undef, .undef, .undef, .undef, .undef, .undef, .undef, .undef, .undef, .undef, .undef, .undef, .undef, .undef, .undef, .undef, .undef, .undef, .undef, .undef, .undef, .undef, .undef, .undef, .undef, .undef, .undef, .undef, .undef, .undef, .undef, .undef, .undef, .int .i64 p1, .int .i64 p2, .undef, .undef, .undef, .undef, .undef, .undef, .undef, .undef, .undef, .undef, .undef, .undef, .undef, .undef], [[], [], [], [], [], [], [], [], [], [], [], [], [], [], [], [], [], [], [], [], [], [], [], [], [], [], [], [], [], [], [], [], [], [], [], [], [], [], [], [], [], [], [], [], [], [], [], [], [], [], [], [], [], [], [], [], [], []]⟩ K = L16_1 k (fun x => κ ((.bool x, []) : Res)) p0 p1 p2 (fun v => K (.exit 2) ⟨58, [.str p0, .undef, .undef, .undef, .undef, .undef, .undef, .undef, .undef, .undef, .undef, .undef, .undef, .undef, .undef, .undef, .undef, .undef, .undef, .undef, .undef, .undef, .undef, .undef, .undef, .undef, .undef, .undef, .undef, .undef, .undef, .undef, .undef, .undef, .undef, .undef, .undef, .undef, .undef, .undef, .undef, .undef, .int .i64 p1, .int .i64 v, .undef, .undef, .undef, .undef, .undef, .undef, .undef, .undef, .undef, .undef, .undef, .undef, .undef, .undef], [[], [], [], [], [], [], [], [], [], [], [], [], [], [], [], [], [], [], [], [], [], [], [], [], [], [], [], [], [], [], [], [], [], [], [], [], [], [], [], [], [], [], [], [], [], [], [], [], [], [], [], [], [], [], [], [], [], []]⟩) := by
  intro k κ
  induction k with
  | zero => intro p0 p1 p2 K; rfl
  | succ k ih =>
    intro p0 p1 p2 K
    rw [ev_loop, ← L16_1_d k κ ih]
    kernel_rfl
def L16_0 : Nat → (Bool → Option Res) → ByteArray → Int → Int → (Int → Option Res) → Option Res
  | 0, _, _, _, _, _ => none
  | k + 1, κ, p0, p1, p2, K =>
  if decide (p2 < p1) = true then
   (if (decide ((0 : Int) ≤ p2) && decide (p2 < (p0.size : Int))) = true then
    (F79 k (byteAt p0 p2) fun x2 =>
    if (!x2) = true then
     (if decide ((byteAt p0 p2) < (48 : Int)) = true then
      (κ false)
     else
      (if decide ((byteAt p0 p2) > (57 : Int)) = true then
       (κ false)
      else
       (L16_0 k κ p0 p1 (IntKind.wrap .i64 (p2 + (1 : Int))) K)))
    else
     (L16_0 k κ p0 p1 (IntKind.wrap .i64 (p2 + (1 : Int))) K))
   else
    (none))
  else
   (K p2)
def L16_0_s : List SC := [.one .str, .one .undef, .one .undef, .one .undef, .one .undef, .one .undef, .one .undef, .one .undef, .one .undef, .one .undef, .one .undef, .one .undef, .one .undef, .one .undef, .one .undef, .one .undef, .one .undef, .one .undef, .one .undef, .one .undef, .one (.int .i64), .one (.int .i64), .one .undef, .one .undef, .one .undef, .one .undef, .one .undef, .one .undef, .one .undef, .one .undef, .one .undef, .one .undef, .one .undef, .one .undef, .one .undef, .one .undef, .one .undef, .one .undef, .one .undef, .one .undef, .one .undef, .one .undef, .one .undef, .one .undef, .one .undef, .one .undef, .one .undef, .one .undef, .one .undef, .one .undef, .one .undef, .one .undef, .one .undef, .one .undef, .one .undef, .one .undef, .one .undef, .one .undef]
def L16_0_b : List (List SC) := [[], [], [], [], [], [], [], [], [], [], [], [], [], [], [], [], [], [], [], [], [], [], [], [], [], [], [], [], [], [], [], [], [], [], [], [], [], [], [], [], [], [], [], [], [], [], [], [], [], [], [], [], [], [], [], [], [], []]
def L16_0_m (k : Nat) (κ : Res → Option Res) (lf : LoopF) : LoopF := fun p σ K => if pathEq p [true, true, false, true, false] = true then (if okSt 58 L16_0_s L16_0_b σ = true then L16_0 k (fun x => κ ((.bool x, []) : Res)) (stringOf (nth σ.slots 0)) (intOf (nth σ.slots 20)) (intOf (nth σ.slots 21)) (fun v => K (.exit 0) ⟨58, [.str (stringOf (nth σ.slots 0)), .undef, .undef, .undef, .undef, .undef, .undef, .undef, .undef, .undef, .undef, .undef, .undef, .undef, .undef, .undef, .undef, .undef, .undef, .undef, .int .i64 (intOf (nth σ.slots 20)), .int .i64 v, .undef, .undef, .undef, .undef, .undef, .undef, .undef, .undef, .undef, .undef, .undef, .undef, .undef, .undef, .undef, .undef, .undef, .undef, .undef, .undef, .undef, .undef, .undef, .undef, .undef, .undef, .undef, .undef, .undef, .undef, .undef, .undef, .undef, .undef, .undef, .undef], [[], [], [], [], [], [], [], [], [], [], [], [], [], [], [], [], [], [], [], [], [], [], [], [], [], [], [], [], [], [], [], [], [], [], [], [], [], [], [], [], [], [], [], [], [], [], [], [], [], [], [], [], [], [], [], [], [], []]⟩) else lf p σ K) else lf p σ K
theorem L16_0_d (k : Nat) (κ : Res → Option Res) (h : ∀ (p0 : ByteArray) (p1 : Int) (p2 : Int) (K : Cont), (ev Try.prog cfg k).loop 16 0 κ [true, true, false, true, false] ⟨58, [.str p0, .undef, .undef, .undef, .undef, .undef, .undef, .undef, .undef, .undef, .undef, .undef, .undef, .undef, .undef, .undef, .undef, .undef, .undef, .undef, .int .i64 p1, .int .i64 p2, .undef, .undef, .undef, .undef, .undef, .undef, .undef, .undef, .undef, .undef, .undef, .undef, .undef, .undef, .undef, .undef, .undef, .undef, .undef, .undef, .undef, .undef, .undef, .undef, .undef, .undef, .undef, .undef, .undef, .undef, .undef, .undef, .undef, .undef, .undef, .undef], [[], [], [], [], [], [], [], [], [], [], [], [], [], [], [], [], [], [], [], [], [], [], [], [], [], [], [], [], [], [], [], [], [], [], [], [], [], [], [], [], [], [], [], [], [], [], [], [], [], [], [], [], [], [], [], [], [], []]⟩ K = L16_0 k (fun x => κ ((.bool x, []) : Res)) p0 p1 p2 (fun v => K (.exit 0) ⟨58, [.str p0, .undef, .undef, .undef, .undef, .undef, .undef, .undef, .undef, .undef, .undef, .undef, .undef, .undef, .undef, .undef, .undef, .undef, .undef, .undef, .int .i64 p1, .int .i64 v, .undef, .undef, .undef, .undef, .undef, .undef, .undef, .undef, .undef, .undef, .undef, .undef, .undef, .undef, .undef, .undef, .undef, .undef, .undef, .undef, .undef, .undef, .undef, .undef, .undef, .undef, .undef, .undef, .undef, .undef, .undef, .undef, .undef, .undef, .undef, .undef], [[], [], [], [], [], [], [], [], [], [], [], [], [], [], [], [], [], [], [], [], [], [], [], [], [], [], [], [], [], [], [], [], [], [], [], [], [], [], [], [], [], [], [], [], [], [], [], [], [], [], [], [], [], [], [], [], [], []]⟩)) : L16_0_m k κ ((ev Try.prog cfg k).loop 16 0 κ) = (ev Try.prog cfg k).loop 16 0 κ := by
  funext p σ K
  unfold L16_0_m
  split
  · rename_i hp
    split
    · rename_i hs
      have e : mkSt 58 L16_0_s L16_0_b σ = ⟨58, [.str (stringOf (nth σ.slots 0)), .undef, .undef, .undef, .undef, .undef, .undef, .undef, .undef, .undef, .undef, .undef, .undef, .undef, .undef, .undef, .undef, .undef, .undef, .undef, .int .i64 (intOf (nth σ.slots 20)), .int .i64 (intOf (nth σ.slots 21)), .undef, .undef, .undef, .undef, .undef, .undef, .undef, .undef, .undef, .undef, .undef, .undef, .undef, .undef, .undef, .undef, .undef, .undef, .undef, .undef, .undef, .undef, .undef, .undef, .undef, .undef, .undef, .undef, .undef, .undef, .undef, .undef, .undef, .undef, .undef, .undef], [[], [], [], [], [], [], [], [], [], [], [], [], [], [], [], [], [], [], [], [], [], [], [], [], [], [], [], [], [], [], [], [], [], [], [], [], [], [], [], [], [], [], [], [], [], [], [], [], [], [], [], [], [], [], [], [], [], []]⟩ := by kernel_rfl
      rw [pathEq_eq hp]
      exact (h (stringOf (nth σ.slots 0)) (intOf (nth σ.slots 20)) (intOf (nth σ.slots 21)) K).symm.trans (congrArg (fun s => (ev Try.prog cfg k).loop 16 0 κ [true, true, false, true, false] s K) (e.symm.trans (okSt_eq hs).symm))
    · rfl
  · rfl
theorem L16_0_ev : ∀ (k : Nat) (κ : Res → Option Res) (p0 : ByteArray) (p1 : Int) (p2 : Int) (K : Cont), (ev Try.prog cfg k).loop 16 0 κ [true, true, false, true, false] ⟨58, [.str p0, .undef, .undef, .undef, .undef, .undef, .undef, .undef, .undef, .undef, .undef, .undef, .undef, .undef, .undef, .undef, .undef, .undef, .undef, .undef, .int .i64 p1, .int .i64 p2, .undef, .undef, .undef, .undef, .undef, .undef, .undef, .undef, .undef, .undef, .undef, .undef, .undef, .undef, .undef, .undef, .undef, .undef, .undef, .undef, .undef, .undef, .undef, .undef, .undef, .undef, .undef, .undef, .undef, .undef, .undef, .undef, .undef, .undef, .undef, .undef], [[], [], [], [], [], [], [], [], [], [], [], [], [], [], [], [], [], [], [], [], [], [], [], [], [], [], [], [], [], [], [], [], [], [], [], [], [], [], [], [], [], [], [], [], [], [], [], [], [], [], [], [], [], [], [], [], [], []]⟩ K = L16_0 k (fun x => κ ((.bool x, []) : Res)) p0 p1 p2 (fun v => K (.exit 0) ⟨58, [.str p0, .undef, .undef, .undef, .undef, .undef, .undef, .undef, .undef, .undef, .undef, .undef, .undef, .undef, .undef, .undef, .undef, .undef, .undef, .undef, .int .i64 p1, .int .i64 v, .undef, .undef, .undef, .undef, .undef, .undef, .undef, .undef, .undef, .undef, .undef, .undef, .undef, .undef, .undef, .undef, .undef, .undef, .undef, .undef, .undef, .undef, .undef, .undef, .undef, .undef, .undef, .undef, .undef, .undef, .undef, .undef, .undef, .undef, .undef, .undef], [[], [], [], [], [], [], [], [], [], [], [], [], [], [], [], [], [], [], [], [], [], [], [], [], [], [], [], [], [], [], [], [], [], [], [], [], [], [], [], [], [], [], [], [], [], [], [], [], [], [], [], [], [], [], [], [], [], []]⟩) := by
  intro k κ
  induction k with
  | zero => intro p0 p1 p2 K; rfl
  | succ k ih =>
    intro p0 p1 p2 K
    rw [ev_loop, ← F79_d k (F79_ev k), ← L16_0_d k κ ih]
    kernel_rfl
/-- lamplighter/schema.Name -/
def F16 : Nat → ByteArray → (Bool → Option Res) → Option Res
  | 0, _, _ => none
  | k + 1, a0, κ =>
  if (a0.toList == (⟨#[]⟩ : ByteArray).toList) = true then
   (κ false)
  else
   (if decide ((a0.size : Int) > (16 : Int)) = true then
    (κ false)
   else
    (if decide ((0 : Int) < (a0.size : Int)) = true then
     (F79 k (byteAt a0 (0 : Int)) fun x1 =>
     if (!x1) = true then
      (κ false)
     else
      (L16_0 k κ a0 (a0.size : Int) (0 : Int) fun v3 =>
      L16_1 k κ a0 (IntKind.wrap .i64 ((IntKind.wrap .i64 ((44 : Int) - (a0.size : Int))) - (1 : Int))) (0 : Int) fun v4 =>
      κ true))
    else
     (none)))
def F16_s : List SC := [.one .str]
def F16_b : List (List SC) := []
def F16_m (k : Nat) (cf : CallF) : CallF := fun f args lent κ => if Nat.beq f 16 = true then (if (okC F16_s args && okB F16_b lent) = true then F16 k (stringOf (nth args 0)) (fun x => κ ((.bool x, []) : Res)) else cf f args lent κ) else cf f args lent κ
theorem F16_d (k : Nat) (h : ∀ (a0 : ByteArray) (κ : Res → Option Res), (ev Try.prog cfg k).call 16 [.str a0] [] κ = F16 k a0 (fun x => κ ((.bool x, []) : Res))) : F16_m k (ev Try.prog cfg k).call = (ev Try.prog cfg k).call := by
  funext f args lent κ
  unfold F16_m
  split
  · rename_i hp
    split
    · rename_i hs
      rw [Bool.and_eq_true] at hs
      have e : mkC F16_s 0 args = [.str (stringOf (nth args 0))] := by kernel_rfl
      have e' : mkB F16_b 0 lent = [] := by kernel_rfl
      obtain rfl := Nat.eq_of_beq_eq_true hp
      exact (h (stringOf (nth args 0)) κ).symm.trans (cong2 (fun a l => (ev Try.prog cfg k).call 16 a l κ) (e.symm.trans (okC_eq hs.1).symm) (e'.symm.trans (okB_eq hs.2).symm))
    · rfl
  · rfl
theorem F16_ev : ∀ (k : Nat) (a0 : ByteArray) (κ : Res → Option Res), (ev Try.prog cfg k).call 16 [.str a0] [] κ = F16 k a0 (fun x => κ ((.bool x, []) : Res)) := by
  intro k
  induction k with
  | zero => intros; rfl
  | succ k ih =>
    intro a0 κ
    refine (ev_call' Try.prog cfg k 16 0 _ _ κ (by rfl)).trans ?_
    rw [← F79_d k (F79_ev k), ← L16_0_d k κ (L16_0_ev k κ), ← L16_1_d k κ (L16_1_ev k κ)]
    kernel_rfl
/-- lamplighter/schema.fields$1 -/
def F109 : Nat → (ByteArray × Int) → ByteArray → Int → (Bool × ByteArray × Int → Option Res) → Option Res
  | 0, _, _, _, _ => none
  | k + 1, a0, b0_0, b0_1, κ =>
  κ ((a0.1.toList == b0_0.toList), (b0_0, b0_1))
def F109_s : List SC := [.agg [.str, .int .i64], .one (.ref 0 0)]
def F109_b : List (List SC) := [[.one .str, .one (.int .i64)]]
def F109_m (k : Nat) (cf : CallF) : CallF := fun f args lent κ => if Nat.beq f 109 = true then (if (okC F109_s args && okB F109_b lent) = true then F109 k ((stringOf (nth (aggOf (nth args 0)) 0)), (intOf (nth (aggOf (nth args 0)) 1))) (stringOf (nth (nthB lent 0) 0)) (intOf (nth (nthB lent 0) 1)) (fun x => κ ((.bool x.1, [[.str x.2.1, .int .i64 x.2.2]]) : Res)) else cf f args lent κ) else cf f args lent κ
theorem F109_d (k : Nat) (h : ∀ (a0 : (ByteArray × Int)) (b0_0 : ByteArray) (b0_1 : Int) (κ : Res → Option Res), (ev Try.prog cfg k).call 109 [.agg [.str a0.1, .int .i64 a0.2], .ref 0 0] [[.str b0_0, .int .i64 b0_1]] κ = F109 k a0 b0_0 b0_1 (fun x => κ ((.bool x.1, [[.str x.2.1, .int .i64 x.2.2]]) : Res))) : F109_m k (ev Try.prog cfg k).call = (ev Try.prog cfg k).call := by
  funext f args lent κ
  unfold F109_m
  split
  · rename_i hp
    split
    · rename_i hs
      rw [Bool.and_eq_true] at hs
      have e : mkC F109_s 0 args = [.agg [.str (stringOf (nth (aggOf (nth args 0)) 0)), .int .i64 (intOf (nth (aggOf (nth args 0)) 1))], .ref 0 0] := by kernel_rfl
      have e' : mkB F109_b 0 lent = [[.str (stringOf (nth (nthB lent 0) 0)), .int .i64 (intOf (nth (nthB lent 0) 1))]] := by kernel_rfl
      obtain rfl := Nat.eq_of_beq_eq_true hp
      exact (h ((stringOf (nth (aggOf (nth args 0)) 0)), (intOf (nth (aggOf (nth args 0)) 1))) (stringOf (nth (nthB lent 0) 0)) (intOf (nth (nthB lent 0) 1)) κ).symm.trans (cong2 (fun a l => (ev Try.prog cfg k).call 109 a l κ) (e.symm.trans (okC_eq hs.1).symm) (e'.symm.trans (okB_eq hs.2).symm))
    · rfl
  · rfl
theorem F109_ev : ∀ (k : Nat) (a0 : (ByteArray × Int)) (b0_0 : ByteArray) (b0_1 : Int) (κ : Res → Option Res), (ev Try.prog cfg k).call 109 [.agg [.str a0.1, .int .i64 a0.2], .ref 0 0] [[.str b0_0, .int .i64 b0_1]] κ = F109 k a0 b0_0 b0_1 (fun x => κ ((.bool x.1, [[.str x.2.1, .int .i64 x.2.2]]) : Res)) := by
  intro k
  induction k with
  | zero => intros; rfl
  | succ k ih =>
    intro a0 b0_0 b0_1 κ
    refine (ev_call' Try.prog cfg k 109 1 _ _ κ (by rfl)).trans ?_
    skip
    kernel_rfl
def L121_0 : Nat → (Int × ByteArray × Int → Option Res) → (List (ByteArray × Int)) → Int → Int → ByteArray → Int → (Int × ByteArray × Int → Option Res) → Option Res
  | 0, _, _, _, _, _, _, _ => none
  | k + 1, κ, p0, p1, p2, p3, p4, K =>
  if decide (p2 < p1) = true then
   (if (decide ((0 : Int) ≤ p2) && decide (p2 < (p0.length : Int))) = true then
    (F109 k (p0.getD p2.toNat ((⟨#[]⟩ : ByteArray), (0 : Int))) p3 p4 fun x1 =>
    if x1.1 = true then
     (κ (p2, (x1.2.1, x1.2.2)))
    else
     (L121_0 k κ p0 p1 (IntKind.wrap .i64 (p2 + (1 : Int))) x1.2.1 x1.2.2 K))
   else
    (none))
  else
   (K (p2, (p3, p4)))
def L121_0_s : List SC := [.one (.list (.pair .str (.int .i64)) .no), .fn 109 [.ref 19 0], .one .undef, .one .undef, .one .undef, .one .undef, .one .undef, .one (.int .i64), .one (.int .i64), .one .undef, .one .undef, .one .undef, .one .undef, .one .undef, .one .undef, .one .undef, .one .undef, .one .undef, .one .undef]
def L121_0_b : List (List SC) := [[], [], [], [], [], [], [], [], [], [], [], [], [], [], [], [], [], [], [], [.one .str, .one (.int .i64)]]
def L121_0_m (k : Nat) (κ : Res → Option Res) (lf : LoopF) : LoopF := fun p σ K => if pathEq p [true, false, true, false] = true then (if okSt 19 L121_0_s L121_0_b σ = true then L121_0 k (fun x => κ ((.int .i64 x.1, [[.str x.2.1, .int .i64 x.2.2]]) : Res)) (listOf (.pair .str (.int .i64)) (nth σ.slots 0)) (intOf (nth σ.slots 7)) (intOf (nth σ.slots 8)) (stringOf (nth (nthB σ.boxes 19) 0)) (intOf (nth (nthB σ.boxes 19) 1)) (fun v => K (.exit 0) ⟨19, [.list (.pair .str (.int .i64)) (listOf (.pair .str (.int .i64)) (nth σ.slots 0)) .no, .fn 109 [.ref 19 0], .undef, .undef, .undef, .undef, .undef, .int .i64 (intOf (nth σ.slots 7)), .int .i64 v.1, .undef, .undef, .undef, .undef, .undef, .undef, .undef, .undef, .undef, .undef], [[], [], [], [], [], [], [], [], [], [], [], [], [], [], [], [], [], [], [], [.str v.2.1, .int .i64 v.2.2]]⟩) else lf p σ K) else lf p σ K
theorem L121_0_d (k : Nat) (κ : Res → Option Res) (h : ∀ (p0 : (List (ByteArray × Int))) (p1 : Int) (p2 : Int) (p3 : ByteArray) (p4 : Int) (K : Cont), (ev Try.prog cfg k).loop 121 1 κ [true, false, true, false] ⟨19, [.list (.pair .str (.int .i64)) p0 .no, .fn 109 [.ref 19 0], .undef, .undef, .undef, .undef, .undef, .int .i64 p1, .int .i64 p2, .undef, .undef, .undef, .undef, .undef, .undef, .undef, .undef, .undef, .undef], [[], [], [], [], [], [], [], [], [], [], [], [], [], [], [], [], [], [], [], [.str p3, .int .i64 p4]]⟩ K = L121_0 k (fun x => κ ((.int .i64 x.1, [[.str x.2.1, .int .i64 x.2.2]]) : Res)) p0 p1 p2 p3 p4 (fun v => K (.exit 0) ⟨19, [.list (.pair .str (.int .i64)) p0 .no, .fn 109 [.ref 19 0], .undef, .undef, .undef, .undef, .undef, .int .i64 p1, .int .i64 v.1, .undef, .undef, .undef, .undef, .undef, .undef, .undef, .undef, .undef, .undef], [[], [], [], [], [], [], [], [], [], [], [], [], [], [], [], [], [], [], [], [.str v.2.1, .int .i64 v.2.2]]⟩)) : L121_0_m k κ ((ev Try.prog cfg k).loop 121 1 κ) = (ev Try.prog cfg k).loop 121 1 κ := by
  funext p σ K
  unfold L121_0_m
  split
  · rename_i hp
    split
    · rename_i hs
      have e : mkSt 19 L121_0_s L121_0_b σ = ⟨19, [.list (.pair .str (.int .i64)) (listOf (.pair .str (.int .i64)) (nth σ.slots 0)) .no, .fn 109 [.ref 19 0], .undef, .undef, .undef, .undef, .undef, .int .i64 (intOf (nth σ.slots 7)), .int .i64 (intOf (nth σ.slots 8)), .undef, .undef, .undef, .undef, .undef, .undef, .undef, .undef, .undef, .undef], [[], [], [], [], [], [], [], [], [], [], [], [], [], [], [], [], [], [], [], [.str (stringOf (nth (nthB σ.boxes 19) 0)), .int .i64 (intOf (nth (nthB σ.boxes 19) 1))]]⟩ := by kernel_rfl
      rw [pathEq_eq hp]
      exact (h (listOf (.pair .str (.int .i64)) (nth σ.slots 0)) (intOf (nth σ.slots 7)) (intOf (nth σ.slots 8)) (stringOf (nth (nthB σ.boxes 19) 0)) (intOf (nth (nthB σ.boxes 19) 1)) K).symm.trans (congrArg (fun s => (ev Try.prog cfg k).loop 121 1 κ [true, false, true, false] s K) (e.symm.trans (okSt_eq hs).symm))
    · rfl
  · rfl
theorem L121_0_ev : ∀ (k : Nat) (κ : Res → Option Res) (p0 : (List (ByteArray × Int))) (p1 : Int) (p2 : Int) (p3 : ByteArray) (p4 : Int) (K : Cont), (ev Try.prog cfg k).loop 121 1 κ [true, false, true, false] ⟨19, [.list (.pair .str (.int .i64)) p0 .no, .fn 109 [.ref 19 0], .undef, .undef, .undef, .undef, .undef, .int .i64 p1, .int .i64 p2, .undef, .undef, .undef, .undef, .undef, .undef, .undef, .undef, .undef, .undef], [[], [], [], [], [], [], [], [], [], [], [], [], [], [], [], [], [], [], [], [.str p3, .int .i64 p4]]⟩ K = L121_0 k (fun x => κ ((.int .i64 x.1, [[.str x.2.1, .int .i64 x.2.2]]) : Res)) p0 p1 p2 p3 p4 (fun v => K (.exit 0) ⟨19, [.list (.pair .str (.int .i64)) p0 .no, .fn 109 [.ref 19 0], .undef, .undef, .undef, .undef, .undef, .int .i64 p1, .int .i64 v.1, .undef, .undef, .undef, .undef, .undef, .undef, .undef, .undef, .undef, .undef], [[], [], [], [], [], [], [], [], [], [], [], [], [], [], [], [], [], [], [], [.str v.2.1, .int .i64 v.2.2]]⟩) := by
  intro k κ
  induction k with
  | zero => intro p0 p1 p2 p3 p4 K; rfl
  | succ k ih =>
    intro p0 p1 p2 p3 p4 K
    rw [ev_loop, ← F109_d k (F109_ev k), ← L121_0_d k κ ih]
    kernel_rfl
/-- slices.IndexFunc[[]lamplighter/api.Field,lamplighter/api.Field] -/
def F121 : Nat → (List (ByteArray × Int)) → ByteArray → Int → (Int × ByteArray × Int → Option Res) → Option Res
  | 0, _, _, _, _ => none
  | k + 1, a0, b0_0, b0_1, κ =>
  L121_0 k κ a0 (a0.length : Int) (0 : Int) b0_0 b0_1 fun v2 =>
  κ ((-1 : Int), (v2.2.1, v2.2.2))
def F121_s : List SC := [.one (.list (.pair .str (.int .i64)) .no), .fn 109 [.ref 0 0]]
def F121_b : List (List SC) := [[.one .str, .one (.int .i64)]]
def F121_m (k : Nat) (cf : CallF) : CallF := fun f args lent κ => if Nat.beq f 121 = true then (if (okC F121_s args && okB F121_b lent) = true then F121 k (listOf (.pair .str (.int .i64)) (nth args 0)) (stringOf (nth (nthB lent 0) 0)) (intOf (nth (nthB lent 0) 1)) (fun x => κ ((.int .i64 x.1, [[.str x.2.1, .int .i64 x.2.2]]) : Res)) else cf f args lent κ) else cf f args lent κ
theorem F121_d (k : Nat) (h : ∀ (a0 : (List (ByteArray × Int))) (b0_0 : ByteArray) (b0_1 : Int) (κ : Res → Option Res), (ev Try.prog cfg k).call 121 [.list (.pair .str (.int .i64)) a0 .no, .fn 109 [.ref 0 0]] [[.str b0_0, .int .i64 b0_1]] κ = F121 k a0 b0_0 b0_1 (fun x => κ ((.int .i64 x.1, [[.str x.2.1, .int .i64 x.2.2]]) : Res))) : F121_m k (ev Try.prog cfg k).call = (ev Try.prog cfg k).call := by
  funext f args lent κ
  unfold F121_m
  split
  · rename_i hp
    split
    · rename_i hs
      rw [Bool.and_eq_true] at hs
      have e : mkC F121_s 0 args = [.list (.pair .str (.int .i64)) (listOf (.pair .str (.int .i64)) (nth args 0)) .no, .fn 109 [.ref 0 0]] := by kernel_rfl
      have e' : mkB F121_b 0 lent = [[.str (stringOf (nth (nthB lent 0) 0)), .int .i64 (intOf (nth (nthB lent 0) 1))]] := by kernel_rfl
      obtain rfl := Nat.eq_of_beq_eq_true hp
      exact (h (listOf (.pair .str (.int .i64)) (nth args 0)) (stringOf (nth (nthB lent 0) 0)) (intOf (nth (nthB lent 0) 1)) κ).symm.trans (cong2 (fun a l => (ev Try.prog cfg k).call 121 a l κ) (e.symm.trans (okC_eq hs.1).symm) (e'.symm.trans (okB_eq hs.2).symm))
    · rfl
  · rfl
theorem F121_ev : ∀ (k : Nat) (a0 : (List (ByteArray × Int))) (b0_0 : ByteArray) (b0_1 : Int) (κ : Res → Option Res), (ev Try.prog cfg k).call 121 [.list (.pair .str (.int .i64)) a0 .no, .fn 109 [.ref 0 0]] [[.str b0_0, .int .i64 b0_1]] κ = F121 k a0 b0_0 b0_1 (fun x => κ ((.int .i64 x.1, [[.str x.2.1, .int .i64 x.2.2]]) : Res)) := by
  intro k
  induction k with
  | zero => intros; rfl
  | succ k ih =>
    intro a0 b0_0 b0_1 κ
    refine (ev_call' Try.prog cfg k 121 1 _ _ κ (by rfl)).trans ?_
    rw [← F109_d k (F109_ev k), ← L121_0_d k κ (L121_0_ev k κ)]
    kernel_rfl
/-- slices.ContainsFunc[[]lamplighter/api.Field,lamplighter/api.Field] -/
def F108 : Nat → (List (ByteArray × Int)) → ByteArray → Int → (Bool × ByteArray × Int → Option Res) → Option Res
  | 0, _, _, _, _ => none
  | k + 1, a0, b0_0, b0_1, κ =>
  F121 k a0 b0_0 b0_1 fun x1 =>
  κ (decide (x1.1 ≥ (0 : Int)), (x1.2.1, x1.2.2))
def F108_s : List SC := [.one (.list (.pair .str (.int .i64)) .no), .fn 109 [.ref 0 0]]
def F108_b : List (List SC) := [[.one .str, .one (.int .i64)]]
def F108_m (k : Nat) (cf : CallF) : CallF := fun f args lent κ => if Nat.beq f 108 = true then (if (okC F108_s args && okB F108_b lent) = true then F108 k (listOf (.pair .str (.int .i64)) (nth args 0)) (stringOf (nth (nthB lent 0) 0)) (intOf (nth (nthB lent 0) 1)) (fun x => κ ((.bool x.1, [[.str x.2.1, .int .i64 x.2.2]]) : Res)) else cf f args lent κ) else cf f args lent κ
theorem F108_d (k : Nat) (h : ∀ (a0 : (List (ByteArray × Int))) (b0_0 : ByteArray) (b0_1 : Int) (κ : Res → Option Res), (ev Try.prog cfg k).call 108 [.list (.pair .str (.int .i64)) a0 .no, .fn 109 [.ref 0 0]] [[.str b0_0, .int .i64 b0_1]] κ = F108 k a0 b0_0 b0_1 (fun x => κ ((.bool x.1, [[.str x.2.1, .int .i64 x.2.2]]) : Res))) : F108_m k (ev Try.prog cfg k).call = (ev Try.prog cfg k).call := by
  funext f args lent κ
  unfold F108_m
  split
  · rename_i hp
    split
    · rename_i hs
      rw [Bool.and_eq_true] at hs
      have e : mkC F108_s 0 args = [.list (.pair .str (.int .i64)) (listOf (.pair .str (.int .i64)) (nth args 0)) .no, .fn 109 [.ref 0 0]] := by kernel_rfl
      have e' : mkB F108_b 0 lent = [[.str (stringOf (nth (nthB lent 0) 0)), .int .i64 (intOf (nth (nthB lent 0) 1))]] := by kernel_rfl
      obtain rfl := Nat.eq_of_beq_eq_true hp
      exact (h (listOf (.pair .str (.int .i64)) (nth args 0)) (stringOf (nth (nthB lent 0) 0)) (intOf (nth (nthB lent 0) 1)) κ).symm.trans (cong2 (fun a l => (ev Try.prog cfg k).call 108 a l κ) (e.symm.trans (okC_eq hs.1).symm) (e'.symm.trans (okB_eq hs.2).symm))
    · rfl
  · rfl
theorem F108_ev : ∀ (k : Nat) (a0 : (List (ByteArray × Int))) (b0_0 : ByteArray) (b0_1 : Int) (κ : Res → Option Res), (ev Try.prog cfg k).call 108 [.list (.pair .str (.int .i64)) a0 .no, .fn 109 [.ref 0 0]] [[.str b0_0, .int .i64 b0_1]] κ = F108 k a0 b0_0 b0_1 (fun x => κ ((.bool x.1, [[.str x.2.1, .int .i64 x.2.2]]) : Res)) := by
  intro k
  induction k with
  | zero => intros; rfl
  | succ k ih =>
    intro a0 b0_0 b0_1 κ
    refine (ev_call' Try.prog cfg k 108 1 _ _ κ (by rfl)).trans ?_
    rw [← F121_d k (F121_ev k)]
    kernel_rfl
def L80_0 : Nat → (Bool → Option Res) → (List (ByteArray × Int)) → (List (ByteArray × Int)) → Int → Int → (Int → Option Res) → Option Res
  | 0, _, _, _, _, _, _ => none
  | k + 1, κ, p0, p1, p2, p3, K =>
  if decide (p3 < p2) = true then
   (if (decide ((0 : Int) ≤ p3) && decide (p3 < (p1.length : Int))) = true then
    (F16 k ((p1.getD p3.toNat ((⟨#[]⟩ : ByteArray), (0 : Int))).1) fun x1 =>
    if (!x1) = true then
     (κ false)
    else
     (if decide (((p1.getD p3.toNat ((⟨#[]⟩ : ByteArray), (0 : Int))).2) < (1 : Int)) = true then
      (κ false)
     else
      (if decide (((p1.getD p3.toNat ((⟨#[]⟩ : ByteArray), (0 : Int))).2) > (3 : Int)) = true then
       (κ false)
      else
       (if (decide ((0 : Int) ≤ p3) && decide (p3 ≤ (p0.length : Int))) = true then
        (F108 k ((p0.take p3.toNat).drop (0 : Int).toNat) ((p1.getD p3.toNat ((⟨#[]⟩ : ByteArray), (0 : Int))).1) ((p1.getD p3.toNat ((⟨#[]⟩ : ByteArray), (0 : Int))).2) fun x2 =>
        if x2.1 = true then
         (κ false)
        else
         (L80_0 k κ p0 p1 p2 (IntKind.wrap .i64 (p3 + (1 : Int))) K))
       else
        (none)))))
   else
    (none))
  else
   (K p3)
def L80_0_s : List SC := [.one (.list (.pair .str (.int .i64)) .no), .one .undef, .one .undef, .one .undef, .one .undef, .one .undef, .one .undef, .one .undef, .one (.list (.pair .str (.int .i64)) .no), .one (.int .i64), .one (.int .i64), .one .undef, .one .undef, .one .undef, .one .undef, .one .undef, .one .undef, .one .undef, .one .undef, .one .undef, .one .undef, .one .undef, .one .undef, .one .undef, .one .undef, .one .undef, .one .undef, .one .undef, .one .undef, .one .undef, .one .undef, .one .undef, .one .undef, .one .undef, .one .undef]
def L80_0_b : List (List SC) := [[], [], [], [], [], [], [], [], [], [], [], [], [], [], [], [], [], [], [], [], [], [], [], [], [], [], [], [], [], [], [], [], [], [], []]
def L80_0_m (k : Nat) (κ : Res → Option Res) (lf : LoopF) : LoopF := fun p σ K => if pathEq p [true, true, false, true, false] = true then (if okSt 35 L80_0_s L80_0_b σ = true then L80_0 k (fun x => κ ((.bool x, []) : Res)) (listOf (.pair .str (.int .i64)) (nth σ.slots 0)) (listOf (.pair .str (.int .i64)) (nth σ.slots 8)) (intOf (nth σ.slots 9)) (intOf (nth σ.slots 10)) (fun v => K (.exit 0) ⟨35, [.list (.pair .str (.int .i64)) (listOf (.pair .str (.int .i64)) (nth σ.slots 0)) .no, .undef, .undef, .undef, .undef, .undef, .undef, .undef, .list (.pair .str (.int .i64)) (listOf (.pair .str (.int .i64)) (nth σ.slots 8)) .no, .int .i64 (intOf (nth σ.slots 9)), .int .i64 v, .undef, .undef, .undef, .undef, .undef, .undef, .undef, .undef, .undef, .undef, .undef, .undef, .undef, .undef, .undef, .undef, .undef, .undef, .undef, .undef, .undef, .undef, .undef, .undef], [[], [], [], [], [], [], [], [], [], [], [], [], [], [], [], [], [], [], [], [], [], [], [], [], [], [], [], [], [], [], [], [], [], [], []]⟩) else lf p σ K) else lf p σ K
theorem L80_0_d (k : Nat) (κ : Res → Option Res) (h : ∀ (p0 : (List (ByteArray × Int))) (p1 : (List (ByteArray × Int))) (p2 : Int) (p3 : Int) (K : Cont), (ev Try.prog cfg k).loop 80 0 κ [true, true, false, true, false] ⟨35, [.list (.pair .str (.int .i64)) p0 .no, .undef, .undef, .undef, .undef, .undef, .undef, .undef, .list (.pair .str (.int .i64)) p1 .no, .int .i64 p2, .int .i64 p3, .undef, .undef, .undef, .undef, .undef, .undef, .undef, .undef, .undef, .undef, .undef, .undef, .undef, .undef, .undef, .undef, .undef, .undef, .undef, .undef, .undef, .undef, .undef, .undef], [[], [], [], [], [], [], [], [], [], [], [], [], [], [], [], [], [], [], [], [], [], [], [], [], [], [], [], [], [], [], [], [], [], [], []]⟩ K = L80_0 k (fun x => κ ((.bool x, []) : Res)) p0 p1 p2 p3 (fun v => K (.exit 0) ⟨35, [.list (.pair .str (.int .i64)) p0 .no, .undef, .undef, .undef, .undef, .undef, .undef, .undef, .list (.pair .str (.int .i64)) p1 .no, .int .i64 p2, .int .i64 v, .undef, .undef, .undef, .undef, .undef, .undef, .undef, .undef, .undef, .undef, .undef, .undef, .undef, .undef, .undef, .undef, .undef, .undef, .undef, .undef, .undef, .undef, .undef, .undef], [[], [], [], [], [], [], [], [], [], [], [], [], [], [], [], [], [], [], [], [], [], [], [], [], [], [], [], [], [], [], [], [], [], [], []]⟩)) : L80_0_m k κ ((ev Try.prog cfg k).loop 80 0 κ) = (ev Try.prog cfg k).loop 80 0 κ := by
  funext p σ K
  unfold L80_0_m
  split
  · rename_i hp
    split
    · rename_i hs
      have e : mkSt 35 L80_0_s L80_0_b σ = ⟨35, [.list (.pair .str (.int .i64)) (listOf (.pair .str (.int .i64)) (nth σ.slots 0)) .no, .undef, .undef, .undef, .undef, .undef, .undef, .undef, .list (.pair .str (.int .i64)) (listOf (.pair .str (.int .i64)) (nth σ.slots 8)) .no, .int .i64 (intOf (nth σ.slots 9)), .int .i64 (intOf (nth σ.slots 10)), .undef, .undef, .undef, .undef, .undef, .undef, .undef, .undef, .undef, .undef, .undef, .undef, .undef, .undef, .undef, .undef, .undef, .undef, .undef, .undef, .undef, .undef, .undef, .undef], [[], [], [], [], [], [], [], [], [], [], [], [], [], [], [], [], [], [], [], [], [], [], [], [], [], [], [], [], [], [], [], [], [], [], []]⟩ := by kernel_rfl
      rw [pathEq_eq hp]
      exact (h (listOf (.pair .str (.int .i64)) (nth σ.slots 0)) (listOf (.pair .str (.int .i64)) (nth σ.slots 8)) (intOf (nth σ.slots 9)) (intOf (nth σ.slots 10)) K).symm.trans (congrArg (fun s => (ev Try.prog cfg k).loop 80 0 κ [true, true, false, true, false] s K) (e.symm.trans (okSt_eq hs).symm))
    · rfl
  · rfl
theorem L80_0_ev : ∀ (k : Nat) (κ : Res → Option Res) (p0 : (List (ByteArray × Int))) (p1 : (List (ByteArray × Int))) (p2 : Int) (p3 : Int) (K : Cont), (ev Try.prog cfg k).loop 80 0 κ [true, true, false, true, false] ⟨35, [.list (.pair .str (.int .i64)) p0 .no, .undef, .undef, .undef, .undef, .undef, .undef, .undef, .list (.pair .str (.int .i64)) p1 .no, .int .i64 p2, .int .i64 p3, .undef, .undef, .undef, .undef, .undef, .undef, .undef, .undef, .undef, .undef, .undef, .undef, .undef, .undef, .undef, .undef, .undef, .undef, .undef, .undef, .undef, .undef, .undef, .undef], [[], [], [], [], [], [], [], [], [], [], [], [], [], [], [], [], [], [], [], [], [], [], [], [], [], [], [], [], [], [], [], [], [], [], []]⟩ K = L80_0 k (fun x => κ ((.bool x, []) : Res)) p0 p1 p2 p3 (fun v => K (.exit 0) ⟨35, [.list (.pair .str (.int .i64)) p0 .no, .undef, .undef, .undef, .undef, .undef, .undef, .undef, .list (.pair .str (.int .i64)) p1 .no, .int .i64 p2, .int .i64 v, .undef, .undef, .undef, .undef, .undef, .undef, .undef, .undef, .undef, .undef, .undef, .undef, .undef, .undef, .undef, .undef, .undef, .undef, .undef, .undef, .undef, .undef, .undef, .undef], [[], [], [], [], [], [], [], [], [], [], [], [], [], [], [], [], [], [], [], [], [], [], [], [], [], [], [], [], [], [], [], [], [], [], []]⟩) := by
  intro k κ
  induction k with
  | zero => intro p0 p1 p2 p3 K; rfl
  | succ k ih =>
    intro p0 p1 p2 p3 K
    rw [ev_loop, ← F16_d k (F16_ev k), ← F108_d k (F108_ev k), ← L80_0_d k κ ih]
    kernel_rfl
/-- lamplighter/schema.fields -/
def F80 : Nat → (List (ByteArray × Int)) → (Bool → Option Res) → Option Res
  | 0, _, _ => none
  | k + 1, a0, κ =>
  if decide ((a0.length : Int) > (8 : Int)) = true then
   (κ false)
  else
   (L80_0 k κ a0 a0 (a0.length : Int) (0 : Int) fun v3 =>
   κ true)
def F80_s : List SC := [.one (.list (.pair .str (.int .i64)) .no)]
def F80_b : List (List SC) := []
def F80_m (k : Nat) (cf : CallF) : CallF := fun f args lent κ => if Nat.beq f 80 = true then (if (okC F80_s args && okB F80_b lent) = true then F80 k (listOf (.pair .str (.int .i64)) (nth args 0)) (fun x => κ ((.bool x, []) : Res)) else cf f args lent κ) else cf f args lent κ
theorem F80_d (k : Nat) (h : ∀ (a0 : (List (ByteArray × Int))) (κ : Res → Option Res), (ev Try.prog cfg k).call 80 [.list (.pair .str (.int .i64)) a0 .no] [] κ = F80 k a0 (fun x => κ ((.bool x, []) : Res))) : F80_m k (ev Try.prog cfg k).call = (ev Try.prog cfg k).call := by
  funext f args lent κ
  unfold F80_m
  split
  · rename_i hp
    split
    · rename_i hs
      rw [Bool.and_eq_true] at hs
      have e : mkC F80_s 0 args = [.list (.pair .str (.int .i64)) (listOf (.pair .str (.int .i64)) (nth args 0)) .no] := by kernel_rfl
      have e' : mkB F80_b 0 lent = [] := by kernel_rfl
      obtain rfl := Nat.eq_of_beq_eq_true hp
      exact (h (listOf (.pair .str (.int .i64)) (nth args 0)) κ).symm.trans (cong2 (fun a l => (ev Try.prog cfg k).call 80 a l κ) (e.symm.trans (okC_eq hs.1).symm) (e'.symm.trans (okB_eq hs.2).symm))
    · rfl
  · rfl
theorem F80_ev : ∀ (k : Nat) (a0 : (List (ByteArray × Int))) (κ : Res → Option Res), (ev Try.prog cfg k).call 80 [.list (.pair .str (.int .i64)) a0 .no] [] κ = F80 k a0 (fun x => κ ((.bool x, []) : Res)) := by
  intro k
  induction k with
  | zero => intros; rfl
  | succ k ih =>
    intro a0 κ
    refine (ev_call' Try.prog cfg k 80 0 _ _ κ (by rfl)).trans ?_
    rw [← F16_d k (F16_ev k), ← F108_d k (F108_ev k), ← L80_0_d k κ (L80_0_ev k κ)]
    kernel_rfl
def L23_0 : Nat → ((ByteArray × (List (ByteArray × Int))) × Bool × (List (ByteArray × (List (ByteArray × Int)))) → Option Res) → ByteArray → Int → Int → ByteArray → (List (ByteArray × Int)) → (List (ByteArray × (List (ByteArray × Int)))) → (Int → Option Res) → Option Res
  | 0, _, _, _, _, _, _, _, _ => none
  | k + 1, κ, p0, p1, p2, p3, p4, p5, K =>
  if decide (p2 < p1) = true then
   (if (decide ((0 : Int) ≤ p2) && decide (p2 < (p5.length : Int))) = true then
    (if decide (p2.toNat < p5.length) = true then
     (if (((p5.getD p2.toNat ((⟨#[]⟩ : ByteArray), ([] : List (ByteArray × Int)))).1).toList == p0.toList) = true then
      (if decide (((p5.getD p2.toNat ((⟨#[]⟩ : ByteArray), ([] : List (ByteArray × Int)))).2).length ≤ 1000000) = true then κ ((p5.getD p2.toNat ((⟨#[]⟩ : ByteArray), ([] : List (ByteArray × Int)))), (true, p5)) else none)
     else
      (L23_0 k κ p0 p1 (IntKind.wrap .i64 (p2 + (1 : Int))) p3 p4 p5 K))
    else
     (none))
   else
    (none))
  else
   (K p2)
def L23_0_s : List SC := [.one .undef, .one .str, .one .undef, .one .undef, .one (.ref 4 0), .one .undef, .one .undef, .one .undef, .one .undef, .one .undef, .one .undef, .one .undef, .one .undef, .one .undef, .one (.alias (.c 32 0)), .one (.int .i64), .one (.int .i64), .one .undef, .one .undef, .one .undef, .one .undef, .one .undef, .one .undef, .one .undef, .one .undef, .one .undef, .one .undef, .one .undef, .one .undef, .one .undef, .one .undef, .one .undef]
def L23_0_b : List (List SC) := [[], [], [], [], [.one .str, .one (.list (.pair .str (.int .i64)) (.own false false))], [], [], [], [], [], [], [], [], [], [], [], [], [], [], [], [], [], [], [], [], [], [], [], [], [], [], [], [.one (.list (.pair .str (.list (.pair .str (.int .i64)))) (.own false false))]]
def L23_0_m (k : Nat) (κ : Res → Option Res) (lf : LoopF) : LoopF := fun p σ K => if pathEq p [true, true, false, true, false] = true then (if okSt 32 L23_0_s L23_0_b σ = true then L23_0 k (fun x => κ ((.tup [.agg [.str x.1.1, .list (.pair .str (.int .i64)) x.1.2 .no], .bool x.2.1], [[.list (.pair .str (.list (.pair .str (.int .i64)))) x.2.2 (.own false false)]]) : Res)) (stringOf (nth σ.slots 1)) (intOf (nth σ.slots 15)) (intOf (nth σ.slots 16)) (stringOf (nth (nthB σ.boxes 4) 0)) (listOf (.pair .str (.int .i64)) (nth (nthB σ.boxes 4) 1)) (listOf (.pair .str (.list (.pair .str (.int .i64)))) (nth (nthB σ.boxes 32) 0)) (fun v => K (.exit 0) ⟨32, [.undef, .str (stringOf (nth σ.slots 1)), .undef, .undef, .ref 4 0, .undef, .undef, .undef, .undef, .undef, .undef, .undef, .undef, .undef, .alias (.c 32 0), .int .i64 (intOf (nth σ.slots 15)), .int .i64 v, .undef, .undef, .undef, .undef, .undef, .undef, .undef, .undef, .undef, .undef, .undef, .undef, .undef, .undef, .undef], [[], [], [], [], [.str (stringOf (nth (nthB σ.boxes 4) 0)), .list (.pair .str (.int .i64)) (listOf (.pair .str (.int .i64)) (nth (nthB σ.boxes 4) 1)) (.own false false)], [], [], [], [], [], [], [], [], [], [], [], [], [], [], [], [], [], [], [], [], [], [], [], [], [], [], [], [.list (.pair .str (.list (.pair .str (.int .i64)))) (listOf (.pair .str (.list (.pair .str (.int .i64)))) (nth (nthB σ.boxes 32) 0)) (.own false false)]]⟩) else lf p σ K) else lf p σ K
theorem L23_0_d (k : Nat) (κ : Res → Option Res) (h : ∀ (p0 : ByteArray) (p1 : Int) (p2 : Int) (p3 : ByteArray) (p4 : (List (ByteArray × Int))) (p5 : (List (ByteArray × (List (ByteArray × Int))))) (K : Cont), (ev Try.prog cfg k).loop 23 1 κ [true, true, false, true, false] ⟨32, [.undef, .str p0, .undef, .undef, .ref 4 0, .undef, .undef, .undef, .undef, .undef, .undef, .undef, .undef, .undef, .alias (.c 32 0), .int .i64 p1, .int .i64 p2, .undef, .undef, .undef, .undef, .undef, .undef, .undef, .undef, .undef, .undef, .undef, .undef, .undef, .undef, .undef], [[], [], [], [], [.str p3, .list (.pair .str (.int .i64)) p4 (.own false false)], [], [], [], [], [], [], [], [], [], [], [], [], [], [], [], [], [], [], [], [], [], [], [], [], [], [], [], [.list (.pair .str (.list (.pair .str (.int .i64)))) p5 (.own false false)]]⟩ K = L23_0 k (fun x => κ ((.tup [.agg [.str x.1.1, .list (.pair .str (.int .i64)) x.1.2 .no], .bool x.2.1], [[.list (.pair .str (.list (.pair .str (.int .i64)))) x.2.2 (.own false false)]]) : Res)) p0 p1 p2 p3 p4 p5 (fun v => K (.exit 0) ⟨32, [.undef, .str p0, .undef, .undef, .ref 4 0, .undef, .undef, .undef, .undef, .undef, .undef, .undef, .undef, .undef, .alias (.c 32 0), .int .i64 p1, .int .i64 v, .undef, .undef, .undef, .undef, .undef, .undef, .undef, .undef, .undef, .undef, .undef, .undef, .undef, .undef, .undef], [[], [], [], [], [.str p3, .list (.pair .str (.int .i64)) p4 (.own false false)], [], [], [], [], [], [], [], [], [], [], [], [], [], [], [], [], [], [], [], [], [], [], [], [], [], [], [], [.list (.pair .str (.list (.pair .str (.int .i64)))) p5 (.own false false)]]⟩)) : L23_0_m k κ ((ev Try.prog cfg k).loop 23 1 κ) = (ev Try.prog cfg k).loop 23 1 κ := by
  funext p σ K
  unfold L23_0_m
  split
  · rename_i hp
    split
    · rename_i hs
      have e : mkSt 32 L23_0_s L23_0_b σ = ⟨32, [.undef, .str (stringOf (nth σ.slots 1)), .undef, .undef, .ref 4 0, .undef, .undef, .undef, .undef, .undef, .undef, .undef, .undef, .undef, .alias (.c 32 0), .int .i64 (intOf (nth σ.slots 15)), .int .i64 (intOf (nth σ.slots 16)), .undef, .undef, .undef, .undef, .undef, .undef, .undef, .undef, .undef, .undef, .undef, .undef, .undef, .undef, .undef], [[], [], [], [], [.str (stringOf (nth (nthB σ.boxes 4) 0)), .list (.pair .str (.int .i64)) (listOf (.pair .str (.int .i64)) (nth (nthB σ.boxes 4) 1)) (.own false false)], [], [], [], [], [], [], [], [], [], [], [], [], [], [], [], [], [], [], [], [], [], [], [], [], [], [], [], [.list (.pair .str (.list (.pair .str (.int .i64)))) (listOf (.pair .str (.list (.pair .str (.int .i64)))) (nth (nthB σ.boxes 32) 0)) (.own false false)]]⟩ := by kernel_rfl
      rw [pathEq_eq hp]
      exact (h (stringOf (nth σ.slots 1)) (intOf (nth σ.slots 15)) (intOf (nth σ.slots 16)) (stringOf (nth (nthB σ.boxes 4) 0)) (listOf (.pair .str (.int .i64)) (nth (nthB σ.boxes 4) 1)) (listOf (.pair .str (.list (.pair .str (.int .i64)))) (nth (nthB σ.boxes 32) 0)) K).symm.trans (congrArg (fun s => (ev Try.prog cfg k).loop 23 1 κ [true, true, false, true, false] s K) (e.symm.trans (okSt_eq hs).symm))
    · rfl
  · rfl
theorem L23_0_ev : ∀ (k : Nat) (κ : Res → Option Res) (p0 : ByteArray) (p1 : Int) (p2 : Int) (p3 : ByteArray) (p4 : (List (ByteArray × Int))) (p5 : (List (ByteArray × (List (ByteArray × Int))))) (K : Cont), (ev Try.prog cfg k).loop 23 1 κ [true, true, false, true, false] ⟨32, [.undef, .str p0, .undef, .undef, .ref 4 0, .undef, .undef, .undef, .undef, .undef, .undef, .undef, .undef, .undef, .alias (.c 32 0), .int .i64 p1, .int .i64 p2, .undef, .undef, .undef, .undef, .undef, .undef, .undef, .undef, .undef, .undef, .undef, .undef, .undef, .undef, .undef], [[], [], [], [], [.str p3, .list (.pair .str (.int .i64)) p4 (.own false false)], [], [], [], [], [], [], [], [], [], [], [], [], [], [], [], [], [], [], [], [], [], [], [], [], [], [], [], [.list (.pair .str (.list (.pair .str (.int .i64)))) p5 (.own false false)]]⟩ K = L23_0 k (fun x => κ ((.tup [.agg [.str x.1.1, .list (.pair .str (.int .i64)) x.1.2 .no], .bool x.2.1], [[.list (.pair .str (.list (.pair .str (.int .i64)))) x.2.2 (.own false false)]]) : Res)) p0 p1 p2 p3 p4 p5 (fun v => K (.exit 0) ⟨32, [.undef, .str p0, .undef, .undef, .ref 4 0, .undef, .undef, .undef, .undef, .undef, .undef, .undef, .undef, .undef, .alias (.c 32 0), .int .i64 p1, .int .i64 v, .undef, .undef, .undef, .undef, .undef, .undef, .undef, .undef, .undef, .undef, .undef, .undef, .undef, .undef, .undef], [[], [], [], [], [.str p3, .list (.pair .str (.int .i64)) p4 (.own false false)], [], [], [], [], [], [], [], [], [], [], [], [], [], [], [], [], [], [], [], [], [], [], [], [], [], [], [], [.list (.pair .str (.list (.pair .str (.int .i64)))) p5 (.own false false)]]⟩) := by
  intro k κ
  induction k with
  | zero => intro p0 p1 p2 p3 p4 p5 K; rfl
  | succ k ih =>
    intro p0 p1 p2 p3 p4 p5 K
    rw [ev_loop, ← L23_0_d k κ ih]
    kernel_rfl
/-- (*lamplighter/schema.Schema).Find -/
def F23 : Nat → ByteArray → (List (ByteArray × (List (ByteArray × Int)))) → ((ByteArray × (List (ByteArray × Int))) × Bool × (List (ByteArray × (List (ByteArray × Int)))) → Option Res) → Option Res
  | 0, _, _, _ => none
  | k + 1, a1, b0_0, κ =>
  L23_0 k κ a1 (b0_0.length : Int) (0 : Int) (⟨#[]⟩ : ByteArray) ([] : List (ByteArray × Int)) b0_0 fun v1 =>
  κ (((⟨#[]⟩ : ByteArray), ([] : List (ByteArray × Int))), (false, b0_0))
def F23_s : List SC := [.one (.ref 0 0), .one .str]
def F23_b : List (List SC) := [[.one (.list (.pair .str (.list (.pair .str (.int .i64)))) (.own false false))]]
def F23_m (k : Nat) (cf : CallF) : CallF := fun f args lent κ => if Nat.beq f 23 = true then (if (okC F23_s args && okB F23_b lent) = true then F23 k (stringOf (nth args 1)) (listOf (.pair .str (.list (.pair .str (.int .i64)))) (nth (nthB lent 0) 0)) (fun x => κ ((.tup [.agg [.str x.1.1, .list (.pair .str (.int .i64)) x.1.2 .no], .bool x.2.1], [[.list (.pair .str (.list (.pair .str (.int .i64)))) x.2.2 (.own false false)]]) : Res)) else cf f args lent κ) else cf f args lent κ
theorem F23_d (k : Nat) (h : ∀ (a1 : ByteArray) (b0_0 : (List (ByteArray × (List (ByteArray × Int))))) (κ : Res → Option Res), (ev Try.prog cfg k).call 23 [.ref 0 0, .str a1] [[.list (.pair .str (.list (.pair .str (.int .i64)))) b0_0 (.own false false)]] κ = F23 k a1 b0_0 (fun x => κ ((.tup [.agg [.str x.1.1, .list (.pair .str (.int .i64)) x.1.2 .no], .bool x.2.1], [[.list (.pair .str (.list (.pair .str (.int .i64)))) x.2.2 (.own false false)]]) : Res))) : F23_m k (ev Try.prog cfg k).call = (ev Try.prog cfg k).call := by
  funext f args lent κ
  unfold F23_m
  split
  · rename_i hp
    split
    · rename_i hs
      rw [Bool.and_eq_true] at hs
      have e : mkC F23_s 0 args = [.ref 0 0, .str (stringOf (nth args 1))] := by kernel_rfl
      have e' : mkB F23_b 0 lent = [[.list (.pair .str (.list (.pair .str (.int .i64)))) (listOf (.pair .str (.list (.pair .str (.int .i64)))) (nth (nthB lent 0) 0)) (.own false false)]] := by kernel_rfl
      obtain rfl := Nat.eq_of_beq_eq_true hp
      exact (h (stringOf (nth args 1)) (listOf (.pair .str (.list (.pair .str (.int .i64)))) (nth (nthB lent 0) 0)) κ).symm.trans (cong2 (fun a l => (ev Try.prog cfg k).call 23 a l κ) (e.symm.trans (okC_eq hs.1).symm) (e'.symm.trans (okB_eq hs.2).symm))
    · rfl
  · rfl
theorem F23_ev : ∀ (k : Nat) (a1 : ByteArray) (b0_0 : (List (ByteArray × (List (ByteArray × Int))))) (κ : Res → Option Res), (ev Try.prog cfg k).call 23 [.ref 0 0, .str a1] [[.list (.pair .str (.list (.pair .str (.int .i64)))) b0_0 (.own false false)]] κ = F23 k a1 b0_0 (fun x => κ ((.tup [.agg [.str x.1.1, .list (.pair .str (.int .i64)) x.1.2 .no], .bool x.2.1], [[.list (.pair .str (.list (.pair .str (.int .i64)))) x.2.2 (.own false false)]]) : Res)) := by
  intro k
  induction k with
  | zero => intros; rfl
  | succ k ih =>
    intro a1 b0_0 κ
    refine (ev_call' Try.prog cfg k 23 1 _ _ κ (by rfl)).trans ?_
    rw [← L23_0_d k κ (L23_0_ev k κ)]
    kernel_rfl
def L19_0 : Nat → (Int → Option Res) → (Int × (List (ByteArray × (List (ByteArray × Int)))) → Option Res) → (List (ByteArray × (List (ByteArray × Int)))) → Int → Int → (List (ByteArray × (List (ByteArray × Int)))) → (Int × (List (ByteArray × (List (ByteArray × Int)))) → Option Res) → Option Res
  | 0, _, _, _, _, _, _, _ => none
  | k + 1, κ, κ1, p0, p1, p2, p3, K =>
  if decide (p2 < p1) = true then
   (if (decide ((0 : Int) ≤ p2) && decide (p2 < (p0.length : Int))) = true then
    (F16 k ((p0.getD p2.toNat ((⟨#[]⟩ : ByteArray), ([] : List (ByteArray × Int)))).1) fun x1 =>
    if (!x1) = true then
     (κ (1 : Int))
    else
     (F80 k ((p0.getD p2.toNat ((⟨#[]⟩ : ByteArray), ([] : List (ByteArray × Int)))).2) fun x2 =>
     if (!x2) = true then
      (κ (1 : Int))
     else
      (F23 k ((p0.getD p2.toNat ((⟨#[]⟩ : ByteArray), ([] : List (ByteArray × Int)))).1) p3 fun x3 =>
      if x3.2.1 = true then
       (κ (4 : Int))
      else
       (if decide (((p0.getD p2.toNat ((⟨#[]⟩ : ByteArray), ([] : List (ByteArray × Int)))).2).length ≤ 1000000) = true then if decide ((x3.2.2.length + ([(p0.getD p2.toNat ((⟨#[]⟩ : ByteArray), ([] : List (ByteArray × Int))))] : List (ByteArray × (List (ByteArray × Int)))).length) * 40 ≤ 140737488355328) = true then L19_0 k κ κ1 p0 p1 (IntKind.wrap .i64 (p2 + (1 : Int))) (x3.2.2 ++ ([(p0.getD p2.toNat ((⟨#[]⟩ : ByteArray), ([] : List (ByteArray × Int))))] : List (ByteArray × (List (ByteArray × Int))))) K else none else none))))
   else
    (none))
  else
   (K (p2, p3))
def L19_0_s : List SC := [.one .undef, .one .undef, .one .undef, .one .undef, .one (.ref 13 0), .one .undef, .one .undef, .one .undef, .one .undef, .one .undef, .one .undef, .one .undef, .one .undef, .one (.ref 13 0), .one (.list (.pair .str (.list (.pair .str (.int .i64)))) .no), .one (.int .i64), .one (.int .i64), .one .undef, .one .undef, .one .undef, .one .undef, .one .undef, .one .undef, .one .undef, .one .undef, .one .undef, .one .undef, .one .undef, .one .undef, .one .undef, .one .undef, .one .undef, .one .undef, .one .undef, .one .undef, .one .undef, .one .undef, .one .undef, .one .undef, .one .undef, .one .undef, .one .undef, .one .undef, .one .undef, .one .undef, .one .undef, .one .undef, .one .undef, .one .undef, .one .undef, .one .undef, .one .undef, .one .undef, .one .undef, .one .undef]
def L19_0_b : List (List SC) := [[], [], [], [], [], [], [], [], [], [], [], [], [], [.one (.list (.pair .str (.list (.pair .str (.int .i64)))) (.own false false))], [], [], [], [], [], [], [], [], [], [], [], [], [], [], [], [], [], [], [], [], [], [], [], [], [], [], [], [], [], [], [], [], [], [], [], [], [], [], [], [], []]
def L19_0_m (k : Nat) (κ : Res → Option Res) (lf : LoopF) : LoopF := fun p σ K => if pathEq p [true, true, true, false, true, false] = true then (if okSt 55 L19_0_s L19_0_b σ = true then L19_0 k (fun x => κ ((.tup [.nilp, .int .i64 x], []) : Res)) (fun x => κ ((.tup [.ref 0 0, .int .i64 x.1], [[.list (.pair .str (.list (.pair .str (.int .i64)))) x.2 (.own false false)]]) : Res)) (listOf (.pair .str (.list (.pair .str (.int .i64)))) (nth σ.slots 14)) (intOf (nth σ.slots 15)) (intOf (nth σ.slots 16)) (listOf (.pair .str (.list (.pair .str (.int .i64)))) (nth (nthB σ.boxes 13) 0)) (fun v => K (.exit 0) ⟨55, [.undef, .undef, .undef, .undef, .ref 13 0, .undef, .undef, .undef, .undef, .undef, .undef, .undef, .undef, .ref 13 0, .list (.pair .str (.list (.pair .str (.int .i64)))) (listOf (.pair .str (.list (.pair .str (.int .i64)))) (nth σ.slots 14)) .no, .int .i64 (intOf (nth σ.slots 15)), .int .i64 v.1, .undef, .undef, .undef, .undef, .undef, .undef, .undef, .undef, .undef, .undef, .undef, .undef, .undef, .undef, .undef, .undef, .undef, .undef, .undef, .undef, .undef, .undef, .undef, .undef, .undef, .undef, .undef, .undef, .undef, .undef, .undef, .undef, .undef, .undef, .undef, .undef, .undef, .undef], [[], [], [], [], [], [], [], [], [], [], [], [], [], [.list (.pair .str (.list (.pair .str (.int .i64)))) v.2 (.own false false)], [], [], [], [], [], [], [], [], [], [], [], [], [], [], [], [], [], [], [], [], [], [], [], [], [], [], [], [], [], [], [], [], [], [], [], [], [], [], [], [], []]⟩) else lf p σ K) else lf p σ K
theorem L19_0_d (k : Nat) (κ : Res → Option Res) (h : ∀ (p0 : (List (ByteArray × (List (ByteArray × Int))))) (p1 : Int) (p2 : Int) (p3 : (List (ByteArray × (List (ByteArray × Int))))) (K : Cont), (ev Try.prog cfg k).loop 19 0 κ [true, true, true, false, true, false] ⟨55, [.undef, .undef, .undef, .undef, .ref 13 0, .undef, .undef, .undef, .undef, .undef, .undef, .undef, .undef, .ref 13 0, .list (.pair .str (.list (.pair .str (.int .i64)))) p0 .no, .int .i64 p1, .int .i64 p2, .undef, .undef, .undef, .undef, .undef, .undef, .undef, .undef, .undef, .undef, .undef, .undef, .undef, .undef, .undef, .undef, .undef, .undef, .undef, .undef, .undef, .undef, .undef, .undef, .undef, .undef, .undef, .undef, .undef, .undef, .undef, .undef, .undef, .undef, .undef, .undef, .undef, .undef], [[], [], [], [], [], [], [], [], [], [], [], [], [], [.list (.pair .str (.list (.pair .str (.int .i64)))) p3 (.own false false)], [], [], [], [], [], [], [], [], [], [], [], [], [], [], [], [], [], [], [], [], [], [], [], [], [], [], [], [], [], [], [], [], [], [], [], [], [], [], [], [], []]⟩ K = L19_0 k (fun x => κ ((.tup [.nilp, .int .i64 x], []) : Res)) (fun x => κ ((.tup [.ref 0 0, .int .i64 x.1], [[.list (.pair .str (.list (.pair .str (.int .i64)))) x.2 (.own false false)]]) : Res)) p0 p1 p2 p3 (fun v => K (.exit 0) ⟨55, [.undef, .undef, .undef, .undef, .ref 13 0, .undef, .undef, .undef, .undef, .undef, .undef, .undef, .undef, .ref 13 0, .list (.pair .str (.list (.pair .str (.int .i64)))) p0 .no, .int .i64 p1, .int .i64 v.1, .undef, .undef, .undef, .undef, .undef, .undef, .undef, .undef, .undef, .undef, .undef, .undef, .undef, .undef, .undef, .undef, .undef, .undef, .undef, .undef, .undef, .undef, .undef, .undef, .undef, .undef, .undef, .undef, .undef, .undef, .undef, .undef, .undef, .undef, .undef, .undef, .undef, .undef], [[], [], [], [], [], [], [], [], [], [], [], [], [], [.list (.pair .str (.list (.pair .str (.int .i64)))) v.2 (.own false false)], [], [], [], [], [], [], [], [], [], [], [], [], [], [], [], [], [], [], [], [], [], [], [], [], [], [], [], [], [], [], [], [], [], [], [], [], [], [], [], [], []]⟩)) : L19_0_m k κ ((ev Try.prog cfg k).loop 19 0 κ) = (ev Try.prog cfg k).loop 19 0 κ := by
  funext p σ K
  unfold L19_0_m
  split
  · rename_i hp
    split
    · rename_i hs
      have e : mkSt 55 L19_0_s L19_0_b σ = ⟨55, [.undef, .undef, .undef, .undef, .ref 13 0, .undef, .undef, .undef, .undef, .undef, .undef, .undef, .undef, .ref 13 0, .list (.pair .str (.list (.pair .str (.int .i64)))) (listOf (.pair .str (.list (.pair .str (.int .i64)))) (nth σ.slots 14)) .no, .int .i64 (intOf (nth σ.slots 15)), .int .i64 (intOf (nth σ.slots 16)), .undef, .undef, .undef, .undef, .undef, .undef, .undef, .undef, .undef, .undef, .undef, .undef, .undef, .undef, .undef, .undef, .undef, .undef, .undef, .undef, .undef, .undef, .undef, .undef, .undef, .undef, .undef, .undef, .undef, .undef, .undef, .undef, .undef, .undef, .undef, .undef, .undef, .undef], [[], [], [], [], [], [], [], [], [], [], [], [], [], [.list (.pair .str (.list (.pair .str (.int .i64)))) (listOf (.pair .str (.list (.pair .str (.int .i64)))) (nth (nthB σ.boxes 13) 0)) (.own false false)], [], [], [], [], [], [], [], [], [], [], [], [], [], [], [], [], [], [], [], [], [], [], [], [], [], [], [], [], [], [], [], [], [], [], [], [], [], [], [], [], []]⟩ := by kernel_rfl
      rw [pathEq_eq hp]
      exact (h (listOf (.pair .str (.list (.pair .str (.int .i64)))) (nth σ.slots 14)) (intOf (nth σ.slots 15)) (intOf (nth σ.slots 16)) (listOf (.pair .str (.list (.pair .str (.int .i64)))) (nth (nthB σ.boxes 13) 0)) K).symm.trans (congrArg (fun s => (ev Try.prog cfg k).loop 19 0 κ [true, true, true, false, true, false] s K) (e.symm.trans (okSt_eq hs).symm))
    · rfl
  · rfl
theorem L19_0_ev : ∀ (k : Nat) (κ : Res → Option Res) (p0 : (List (ByteArray × (List (ByteArray × Int))))) (p1 : Int) (p2 : Int) (p3 : (List (ByteArray × (List (ByteArray × Int))))) (K : Cont), (ev Try.prog cfg k).loop 19 0 κ [true, true, true, false, true, false] ⟨55, [.undef, .undef, .undef, .undef, .ref 13 0, .undef, .undef, .undef, .undef, .undef, .undef, .undef, .undef, .ref 13 0, .list (.pair .str (.list (.pair .str (.int .i64)))) p0 .no, .int .i64 p1, .int .i64 p2, .undef, .undef, .undef, .undef, .undef, .undef, .undef, .undef, .undef, .undef, .undef, .undef, .undef, .undef, .undef, .undef, .undef, .undef, .undef, .undef, .undef, .undef, .undef, .undef, .undef, .undef, .undef, .undef, .undef, .undef, .undef, .undef, .undef, .undef, .undef, .undef, .undef, .undef], [[], [], [], [], [], [], [], [], [], [], [], [], [], [.list (.pair .str (.list (.pair .str (.int .i64)))) p3 (.own false false)], [], [], [], [], [], [], [], [], [], [], [], [], [], [], [], [], [], [], [], [], [], [], [], [], [], [], [], [], [], [], [], [], [], [], [], [], [], [], [], [], []]⟩ K = L19_0 k (fun x => κ ((.tup [.nilp, .int .i64 x], []) : Res)) (fun x => κ ((.tup [.ref 0 0, .int .i64 x.1], [[.list (.pair .str (.list (.pair .str (.int .i64)))) x.2 (.own false false)]]) : Res)) p0 p1 p2 p3 (fun v => K (.exit 0) ⟨55, [.undef, .undef, .undef, .undef, .ref 13 0, .undef, .undef, .undef, .undef, .undef, .undef, .undef, .undef, .ref 13 0, .list (.pair .str (.list (.pair .str (.int .i64)))) p0 .no, .int .i64 p1, .int .i64 v.1, .undef, .undef, .undef, .undef, .undef, .undef, .undef, .undef, .undef, .undef, .undef, .undef, .undef, .undef, .undef, .undef, .undef, .undef, .undef, .undef, .undef, .undef, .undef, .undef, .undef, .undef, .undef, .undef, .undef, .undef, .undef, .undef, .undef, .undef, .undef, .undef, .undef, .undef], [[], [], [], [], [], [], [], [], [], [], [], [], [], [.list (.pair .str (.list (.pair .str (.int .i64)))) v.2 (.own false false)], [], [], [], [], [], [], [], [], [], [], [], [], [], [], [], [], [], [], [], [], [], [], [], [], [], [], [], [], [], [], [], [], [], [], [], [], [], [], [], [], []]⟩) := by
  intro k κ
  induction k with
  | zero => intro p0 p1 p2 p3 K; rfl
  | succ k ih =>
    intro p0 p1 p2 p3 K
    rw [ev_loop, ← F16_d k (F16_ev k), ← F80_d k (F80_ev k), ← F23_d k (F23_ev k), ← L19_0_d k κ ih]
    kernel_rfl
/-- lamplighter/schema.New -/
def F19 : Nat → (List (ByteArray × (List (ByteArray × Int)))) → (Int → Option Res) → (Int × (List (ByteArray × (List (ByteArray × Int)))) → Option Res) → Option Res
  | 0, _, _, _ => none
  | k + 1, a0, κ, κ1 =>
  if decide ((a0.length : Int) > (16 : Int)) = true then
   (κ (5 : Int))
  else
   (L19_0 k κ κ1 a0 (a0.length : Int) (0 : Int) ([] : List (ByteArray × (List (ByteArray × Int)))) fun v4 =>
   κ1 ((0 : Int), v4.2))
def F19_s : List SC := [.one (.list (.pair .str (.list (.pair .str (.int .i64)))) .no)]
def F19_b : List (List SC) := []
def F19_m (k : Nat) (cf : CallF) : CallF := fun f args lent κ => if Nat.beq f 19 = true then (if (okC F19_s args && okB F19_b lent) = true then F19 k (listOf (.pair .str (.list (.pair .str (.int .i64)))) (nth args 0)) (fun x => κ ((.tup [.nilp, .int .i64 x], []) : Res)) (fun x => κ ((.tup [.ref 0 0, .int .i64 x.1], [[.list (.pair .str (.list (.pair .str (.int .i64)))) x.2 (.own false false)]]) : Res)) else cf f args lent κ) else cf f args lent κ
theorem F19_d (k : Nat) (h : ∀ (a0 : (List (ByteArray × (List (ByteArray × Int))))) (κ : Res → Option Res), (ev Try.prog cfg k).call 19 [.list (.pair .str (.list (.pair .str (.int .i64)))) a0 .no] [] κ = F19 k a0 (fun x => κ ((.tup [.nilp, .int .i64 x], []) : Res)) (fun x => κ ((.tup [.ref 0 0, .int .i64 x.1], [[.list (.pair .str (.list (.pair .str (.int .i64)))) x.2 (.own false false)]]) : Res))) : F19_m k (ev Try.prog cfg k).call = (ev Try.prog cfg k).call := by
  funext f args lent κ
  unfold F19_m
  split
  · rename_i hp
    split
    · rename_i hs
      rw [Bool.and_eq_true] at hs
      have e : mkC F19_s 0 args = [.list (.pair .str (.list (.pair .str (.int .i64)))) (listOf (.pair .str (.list (.pair .str (.int .i64)))) (nth args 0)) .no] := by kernel_rfl
      have e' : mkB F19_b 0 lent = [] := by kernel_rfl
      obtain rfl := Nat.eq_of_beq_eq_true hp
      exact (h (listOf (.pair .str (.list (.pair .str (.int .i64)))) (nth args 0)) κ).symm.trans (cong2 (fun a l => (ev Try.prog cfg k).call 19 a l κ) (e.symm.trans (okC_eq hs.1).symm) (e'.symm.trans (okB_eq hs.2).symm))
    · rfl
  · rfl
theorem F19_ev : ∀ (k : Nat) (a0 : (List (ByteArray × (List (ByteArray × Int))))) (κ : Res → Option Res), (ev Try.prog cfg k).call 19 [.list (.pair .str (.list (.pair .str (.int .i64)))) a0 .no] [] κ = F19 k a0 (fun x => κ ((.tup [.nilp, .int .i64 x], []) : Res)) (fun x => κ ((.tup [.ref 0 0, .int .i64 x.1], [[.list (.pair .str (.list (.pair .str (.int .i64)))) x.2 (.own false false)]]) : Res)) := by
  intro k
  induction k with
  | zero => intros; rfl
  | succ k ih =>
    intro a0 κ
    refine (ev_call' Try.prog cfg k 19 0 _ _ κ (by rfl)).trans ?_
    rw [← F16_d k (F16_ev k), ← F80_d k (F80_ev k), ← F23_d k (F23_ev k), ← L19_0_d k κ (L19_0_ev k κ)]
    kernel_rfl
/-- (*lamplighter/schema.Schema).Find -/
def F23v1 : Nat → ByteArray → ((ByteArray × (List (ByteArray × Int))) × Bool → Option Res) → Option Res
  | 0, _, _ => none
  | k + 1, a1, κ =>
  κ (((⟨#[]⟩ : ByteArray), ([] : List (ByteArray × Int))), false)
def F23v1_s : List SC := [.one .nilp, .one .str]
def F23v1_b : List (List SC) := []
def F23v1_m (k : Nat) (cf : CallF) : CallF := fun f args lent κ => if Nat.beq f 23 = true then (if (okC F23v1_s args && okB F23v1_b lent) = true then F23v1 k (stringOf (nth args 1)) (fun x => κ ((.tup [.agg [.str x.1.1, .list (.pair .str (.int .i64)) x.1.2 .no], .bool x.2], []) : Res)) else cf f args lent κ) else cf f args lent κ
theorem F23v1_d (k : Nat) (h : ∀ (a1 : ByteArray) (κ : Res → Option Res), (ev Try.prog cfg k).call 23 [.nilp, .str a1] [] κ = F23v1 k a1 (fun x => κ ((.tup [.agg [.str x.1.1, .list (.pair .str (.int .i64)) x.1.2 .no], .bool x.2], []) : Res))) : F23v1_m k (ev Try.prog cfg k).call = (ev Try.prog cfg k).call := by
  funext f args lent κ
  unfold F23v1_m
  split
  · rename_i hp
    split
    · rename_i hs
      rw [Bool.and_eq_true] at hs
      have e : mkC F23v1_s 0 args = [.nilp, .str (stringOf (nth args 1))] := by kernel_rfl
      have e' : mkB F23v1_b 0 lent = [] := by kernel_rfl
      obtain rfl := Nat.eq_of_beq_eq_true hp
      exact (h (stringOf (nth args 1)) κ).symm.trans (cong2 (fun a l => (ev Try.prog cfg k).call 23 a l κ) (e.symm.trans (okC_eq hs.1).symm) (e'.symm.trans (okB_eq hs.2).symm))
    · rfl
  · rfl
theorem F23v1_ev : ∀ (k : Nat) (a1 : ByteArray) (κ : Res → Option Res), (ev Try.prog cfg k).call 23 [.nilp, .str a1] [] κ = F23v1 k a1 (fun x => κ ((.tup [.agg [.str x.1.1, .list (.pair .str (.int .i64)) x.1.2 .no], .bool x.2], []) : Res)) := by
  intro k
  induction k with
  | zero => intros; rfl
  | succ k ih =>
    intro a1 κ
    refine (ev_call' Try.prog cfg k 23 0 _ _ κ (by rfl)).trans ?_
    skip
    kernel_rfl
def L24_0 : Nat → (Int × Int → Option Res) → ByteArray → (List (ByteArray × Int)) → Int → Int → (Int → Option Res) → Option Res
  | 0, _, _, _, _, _, _ => none
  | k + 1, κ, p0, p1, p2, p3, K =>
  if decide (p3 < p2) = true then
   (if (decide ((0 : Int) ≤ p3) && decide (p3 < (p1.length : Int))) = true then
    (if (((p1.getD p3.toNat ((⟨#[]⟩ : ByteArray), (0 : Int))).1).toList == p0.toList) = true then
     (κ (p3, (p1.getD p3.toNat ((⟨#[]⟩ : ByteArray), (0 : Int))).2))
    else
     (L24_0 k κ p0 p1 p2 (IntKind.wrap .i64 (p3 + (1 : Int))) K))
   else
    (none))
  else
   (K p3)
def L24_0_s : List SC := [.one .undef, .one .undef, .one .str, .one .undef, .one .undef, .one .undef, .one .undef, .one .undef, .one .undef, .one .undef, .one .undef, .one .undef, .one .undef, .one .undef, .one .undef, .one .undef, .one .undef, .one .undef, .one .undef, .one (.list (.pair .str (.int .i64)) .no), .one (.int .i64), .one (.int .i64), .one .undef, .one .undef, .one .undef, .one .undef, .one .undef, .one .undef, .one .undef, .one .undef, .one .undef, .one .undef, .one .undef, .one .undef]
def L24_0_b : List (List SC) := [[], [], [], [], [], [], [], [], [], [], [], [], [], [], [], [], [], [], [], [], [], [], [], [], [], [], [], [], [], [], [], [], [], []]
def L24_0_m (k : Nat) (κ : Res → Option Res) (lf : LoopF) : LoopF := fun p σ K => if pathEq p [true, true, false, true, false] = true then (if okSt 34 L24_0_s L24_0_b σ = true then L24_0 k (fun x => κ ((.tup [.int .i64 x.1, .int .i64 x.2], []) : Res)) (stringOf (nth σ.slots 2)) (listOf (.pair .str (.int .i64)) (nth σ.slots 19)) (intOf (nth σ.slots 20)) (intOf (nth σ.slots 21)) (fun v => K (.exit 0) ⟨34, [.undef, .undef, .str (stringOf (nth σ.slots 2)), .undef, .undef, .undef, .undef, .undef, .undef, .undef, .undef, .undef, .undef, .undef, .undef, .undef, .undef, .undef, .undef, .list (.pair .str (.int .i64)) (listOf (.pair .str (.int .i64)) (nth σ.slots 19)) .no, .int .i64 (intOf (nth σ.slots 20)), .int .i64 v, .undef, .undef, .undef, .undef, .undef, .undef, .undef, .undef, .undef, .undef, .undef, .undef], [[], [], [], [], [], [], [], [], [], [], [], [], [], [], [], [], [], [], [], [], [], [], [], [], [], [], [], [], [], [], [], [], [], []]⟩) else lf p σ K) else lf p σ K
theorem L24_0_d (k : Nat) (κ : Res → Option Res) (h : ∀ (p0 : ByteArray) (p1 : (List (ByteArray × Int))) (p2 : Int) (p3 : Int) (K : Cont), (ev Try.prog cfg k).loop 24 0 κ [true, true, false, true, false] ⟨34, [.undef, .undef, .str p0, .undef, .undef, .undef, .undef, .undef, .undef, .undef, .undef, .undef, .undef, .undef, .undef, .undef, .undef, .undef, .undef, .list (.pair .str (.int .i64)) p1 .no, .int .i64 p2, .int .i64 p3, .undef, .undef, .undef, .undef, .undef, .undef, .undef, .undef, .undef, .undef, .undef, .undef], [[], [], [], [], [], [], [], [], [], [], [], [], [], [], [], [], [], [], [], [], [], [], [], [], [], [], [], [], [], [], [], [], [], []]⟩ K = L24_0 k (fun x => κ ((.tup [.int .i64 x.1, .int .i64 x.2], []) : Res)) p0 p1 p2 p3 (fun v => K (.exit 0) ⟨34, [.undef, .undef, .str p0, .undef, .undef, .undef, .undef, .undef, .undef, .undef, .undef, .undef, .undef, .undef, .undef, .undef, .undef, .undef, .undef, .list (.pair .str (.int .i64)) p1 .no, .int .i64 p2, .int .i64 v, .undef, .undef, .undef, .undef, .undef, .undef, .undef, .undef, .undef, .undef, .undef, .undef], [[], [], [], [], [], [], [], [], [], [], [], [], [], [], [], [], [], [], [], [], [], [], [], [], [], [], [], [], [], [], [], [], [], []]⟩)) : L24_0_m k κ ((ev Try.prog cfg k).loop 24 0 κ) = (ev Try.prog cfg k).loop 24 0 κ := by
  funext p σ K
  unfold L24_0_m
  split
  · rename_i hp
    split
    · rename_i hs
      have e : mkSt 34 L24_0_s L24_0_b σ = ⟨34, [.undef, .undef, .str (stringOf (nth σ.slots 2)), .undef, .undef, .undef, .undef, .undef, .undef, .undef, .undef, .undef, .undef, .undef, .undef, .undef, .undef, .undef, .undef, .list (.pair .str (.int .i64)) (listOf (.pair .str (.int .i64)) (nth σ.slots 19)) .no, .int .i64 (intOf (nth σ.slots 20)), .int .i64 (intOf (nth σ.slots 21)), .undef, .undef, .undef, .undef, .undef, .undef, .undef, .undef, .undef, .undef, .undef, .undef], [[], [], [], [], [], [], [], [], [], [], [], [], [], [], [], [], [], [], [], [], [], [], [], [], [], [], [], [], [], [], [], [], [], []]⟩ := by kernel_rfl
      rw [pathEq_eq hp]
      exact (h (stringOf (nth σ.slots 2)) (listOf (.pair .str (.int .i64)) (nth σ.slots 19)) (intOf (nth σ.slots 20)) (intOf (nth σ.slots 21)) K).symm.trans (congrArg (fun s => (ev Try.prog cfg k).loop 24 0 κ [true, true, false, true, false] s K) (e.symm.trans (okSt_eq hs).symm))
    · rfl
  · rfl
theorem L24_0_ev : ∀ (k : Nat) (κ : Res → Option Res) (p0 : ByteArray) (p1 : (List (ByteArray × Int))) (p2 : Int) (p3 : Int) (K : Cont), (ev Try.prog cfg k).loop 24 0 κ [true, true, false, true, false] ⟨34, [.undef, .undef, .str p0, .undef, .undef, .undef, .undef, .undef, .undef, .undef, .undef, .undef, .undef, .undef, .undef, .undef, .undef, .undef, .undef, .list (.pair .str (.int .i64)) p1 .no, .int .i64 p2, .int .i64 p3, .undef, .undef, .undef, .undef, .undef, .undef, .undef, .undef, .undef, .undef, .undef, .undef], [[], [], [], [], [], [], [], [], [], [], [], [], [], [], [], [], [], [], [], [], [], [], [], [], [], [], [], [], [], [], [], [], [], []]⟩ K = L24_0 k (fun x => κ ((.tup [.int .i64 x.1, .int .i64 x.2], []) : Res)) p0 p1 p2 p3 (fun v => K (.exit 0) ⟨34, [.undef, .undef, .str p0, .undef, .undef, .undef, .undef, .undef, .undef, .undef, .undef, .undef, .undef, .undef, .undef, .undef, .undef, .undef, .undef, .list (.pair .str (.int .i64)) p1 .no, .int .i64 p2, .int .i64 v, .undef, .undef, .undef, .undef, .undef, .undef, .undef, .undef, .undef, .undef, .undef, .undef], [[], [], [], [], [], [], [], [], [], [], [], [], [], [], [], [], [], [], [], [], [], [], [], [], [], [], [], [], [], [], [], [], [], []]⟩) := by
  intro k κ
  induction k with
  | zero => intro p0 p1 p2 p3 K; rfl
  | succ k ih =>
    intro p0 p1 p2 p3 K
    rw [ev_loop, ← L24_0_d k κ ih]
    kernel_rfl
/-- (*lamplighter/schema.Schema).Field -/
def F24 : Nat → ByteArray → ByteArray → (Int × Int → Option Res) → Option Res
  | 0, _, _, _ => none
  | k + 1, a1, a2, κ =>
  F23v1 k a1 fun x1 =>
  L24_0 k κ a2 x1.1.2 (x1.1.2.length : Int) (0 : Int) fun v2 =>
  κ ((-1 : Int), (0 : Int))
def F24_s : List SC := [.one .nilp, .one .str, .one .str]
def F24_b : List (List SC) := []
def F24_m (k : Nat) (cf : CallF) : CallF := fun f args lent κ => if Nat.beq f 24 = true then (if (okC F24_s args && okB F24_b lent) = true then F24 k (stringOf (nth args 1)) (stringOf (nth args 2)) (fun x => κ ((.tup [.int .i64 x.1, .int .i64 x.2], []) : Res)) else cf f args lent κ) else cf f args lent κ
theorem F24_d (k : Nat) (h : ∀ (a1 : ByteArray) (a2 : ByteArray) (κ : Res → Option Res), (ev Try.prog cfg k).call 24 [.nilp, .str a1, .str a2] [] κ = F24 k a1 a2 (fun x => κ ((.tup [.int .i64 x.1, .int .i64 x.2], []) : Res))) : F24_m k (ev Try.prog cfg k).call = (ev Try.prog cfg k).call := by
  funext f args lent κ
  unfold F24_m
  split
  · rename_i hp
    split
    · rename_i hs
      rw [Bool.and_eq_true] at hs
      have e : mkC F24_s 0 args = [.nilp, .str (stringOf (nth args 1)), .str (stringOf (nth args 2))] := by kernel_rfl
      have e' : mkB F24_b 0 lent = [] := by kernel_rfl
      obtain rfl := Nat.eq_of_beq_eq_true hp
      exact (h (stringOf (nth args 1)) (stringOf (nth args 2)) κ).symm.trans (cong2 (fun a l => (ev Try.prog cfg k).call 24 a l κ) (e.symm.trans (okC_eq hs.1).symm) (e'.symm.trans (okB_eq hs.2).symm))
    · rfl
  · rfl
theorem F24_ev : ∀ (k : Nat) (a1 : ByteArray) (a2 : ByteArray) (κ : Res → Option Res), (ev Try.prog cfg k).call 24 [.nilp, .str a1, .str a2] [] κ = F24 k a1 a2 (fun x => κ ((.tup [.int .i64 x.1, .int .i64 x.2], []) : Res)) := by
  intro k
  induction k with
  | zero => intros; rfl
  | succ k ih =>
    intro a1 a2 κ
    refine (ev_call' Try.prog cfg k 24 0 _ _ κ (by rfl)).trans ?_
    rw [← F23v1_d k (F23v1_ev k), ← L24_0_d k κ (L24_0_ev k κ)]
    kernel_rfl
/-- lamplighter/lamplighterref03.Types -/
def F78 : Nat →  ((List (ByteArray × (List (ByteArray × Int)))) → Option Res) → Option Res
  | 0, _ => none
  | k + 1, κ =>
  κ ([((⟨#[65]⟩ : ByteArray), ([((⟨#[120]⟩ : ByteArray), (1 : Int)), ((⟨#[115]⟩ : ByteArray), (2 : Int))] : List (ByteArray × Int))), ((⟨#[66]⟩ : ByteArray), ([((⟨#[120]⟩ : ByteArray), (1 : Int)), ((⟨#[115]⟩ : ByteArray), (2 : Int))] : List (ByteArray × Int))), ((⟨#[67]⟩ : ByteArray), ([((⟨#[115]⟩ : ByteArray), (2 : Int)), ((⟨#[120]⟩ : ByteArray), (1 : Int)), ((⟨#[98]⟩ : ByteArray), (3 : Int))] : List (ByteArray × Int)))] : List (ByteArray × (List (ByteArray × Int))))
def F78_s : List SC := []
def F78_b : List (List SC) := []
def F78_m (k : Nat) (cf : CallF) : CallF := fun f args lent κ => if Nat.beq f 78 = true then (if (okC F78_s args && okB F78_b lent) = true then F78 k  (fun x => κ ((.list (.pair .str (.list (.pair .str (.int .i64)))) x (.own false false), []) : Res)) else cf f args lent κ) else cf f args lent κ
theorem F78_d (k : Nat) (h : ∀  (κ : Res → Option Res), (ev Try.prog cfg k).call 78 [] [] κ = F78 k  (fun x => κ ((.list (.pair .str (.list (.pair .str (.int .i64)))) x (.own false false), []) : Res))) : F78_m k (ev Try.prog cfg k).call = (ev Try.prog cfg k).call := by
  funext f args lent κ
  unfold F78_m
  split
  · rename_i hp
    split
    · rename_i hs
      rw [Bool.and_eq_true] at hs
      have e : mkC F78_s 0 args = [] := by kernel_rfl
      have e' : mkB F78_b 0 lent = [] := by kernel_rfl
      obtain rfl := Nat.eq_of_beq_eq_true hp
      exact (h  κ).symm.trans (cong2 (fun a l => (ev Try.prog cfg k).call 78 a l κ) (e.symm.trans (okC_eq hs.1).symm) (e'.symm.trans (okB_eq hs.2).symm))
    · rfl
  · rfl
theorem F78_ev : ∀ (k : Nat)  (κ : Res → Option Res), (ev Try.prog cfg k).call 78 [] [] κ = F78 k  (fun x => κ ((.list (.pair .str (.list (.pair .str (.int .i64)))) x (.own false false), []) : Res)) := by
  intro k
  induction k with
  | zero => intros; rfl
  | succ k ih =>
    intro  κ
    refine (ev_call' Try.prog cfg k 78 0 _ _ κ (by rfl)).trans ?_
    skip
    kernel_rfl
/-- (*lamplighter/schema.Schema).Len -/
def F22 : Nat →  (Int → Option Res) → Option Res
  | 0, _ => none
  | k + 1, κ =>
  κ (0 : Int)
def F22_s : List SC := [.one .nilp]
def F22_b : List (List SC) := []
def F22_m (k : Nat) (cf : CallF) : CallF := fun f args lent κ => if Nat.beq f 22 = true then (if (okC F22_s args && okB F22_b lent) = true then F22 k  (fun x => κ ((.int .i64 x, []) : Res)) else cf f args lent κ) else cf f args lent κ
theorem F22_d (k : Nat) (h : ∀  (κ : Res → Option Res), (ev Try.prog cfg k).call 22 [.nilp] [] κ = F22 k  (fun x => κ ((.int .i64 x, []) : Res))) : F22_m k (ev Try.prog cfg k).call = (ev Try.prog cfg k).call := by
  funext f args lent κ
  unfold F22_m
  split
  · rename_i hp
    split
    · rename_i hs
      rw [Bool.and_eq_true] at hs
      have e : mkC F22_s 0 args = [.nilp] := by kernel_rfl
      have e' : mkB F22_b 0 lent = [] := by kernel_rfl
      obtain rfl := Nat.eq_of_beq_eq_true hp
      exact (h  κ).symm.trans (cong2 (fun a l => (ev Try.prog cfg k).call 22 a l κ) (e.symm.trans (okC_eq hs.1).symm) (e'.symm.trans (okB_eq hs.2).symm))
    · rfl
  · rfl
theorem F22_ev : ∀ (k : Nat)  (κ : Res → Option Res), (ev Try.prog cfg k).call 22 [.nilp] [] κ = F22 k  (fun x => κ ((.int .i64 x, []) : Res)) := by
  intro k
  induction k with
  | zero => intros; rfl
  | succ k ih =>
    intro  κ
    refine (ev_call' Try.prog cfg k 22 0 _ _ κ (by rfl)).trans ?_
    skip
    kernel_rfl
def L24v1_0 : Nat → (Int × Int × (List (ByteArray × (List (ByteArray × Int)))) → Option Res) → ByteArray → (List (ByteArray × Int)) → Int → Int → (List (ByteArray × (List (ByteArray × Int)))) → (Int → Option Res) → Option Res
  | 0, _, _, _, _, _, _, _ => none
  | k + 1, κ, p0, p1, p2, p3, p4, K =>
  if decide (p3 < p2) = true then
   (if (decide ((0 : Int) ≤ p3) && decide (p3 < (p1.length : Int))) = true then
    (if (((p1.getD p3.toNat ((⟨#[]⟩ : ByteArray), (0 : Int))).1).toList == p0.toList) = true then
     (κ (p3, ((p1.getD p3.toNat ((⟨#[]⟩ : ByteArray), (0 : Int))).2, p4)))
    else
     (L24v1_0 k κ p0 p1 p2 (IntKind.wrap .i64 (p3 + (1 : Int))) p4 K))
   else
    (none))
  else
   (K p3)
def L24v1_0_s : List SC := [.one .undef, .one .undef, .one .str, .one .undef, .one .undef, .one .undef, .one .undef, .one .undef, .one .undef, .one .undef, .one .undef, .one .undef, .one .undef, .one .undef, .one .undef, .one .undef, .one .undef, .one .undef, .one .undef, .one (.list (.pair .str (.int .i64)) .no), .one (.int .i64), .one (.int .i64), .one .undef, .one .undef, .one .undef, .one .undef, .one .undef, .one .undef, .one .undef, .one .undef, .one .undef, .one .undef, .one .undef, .one .undef]
def L24v1_0_b : List (List SC) := [[], [], [], [], [], [], [], [], [], [], [], [], [], [], [], [], [], [], [], [], [], [], [], [], [], [], [], [], [], [], [], [], [], [], [.one (.list (.pair .str (.list (.pair .str (.int .i64)))) (.own false false))]]
def L24v1_0_m (k : Nat) (κ : Res → Option Res) (lf : LoopF) : LoopF := fun p σ K => if pathEq p [true, true, false, true, false] = true then (if okSt 34 L24v1_0_s L24v1_0_b σ = true then L24v1_0 k (fun x => κ ((.tup [.int .i64 x.1, .int .i64 x.2.1], [[.list (.pair .str (.list (.pair .str (.int .i64)))) x.2.2 (.own false false)]]) : Res)) (stringOf (nth σ.slots 2)) (listOf (.pair .str (.int .i64)) (nth σ.slots 19)) (intOf (nth σ.slots 20)) (intOf (nth σ.slots 21)) (listOf (.pair .str (.list (.pair .str (.int .i64)))) (nth (nthB σ.boxes 34) 0)) (fun v => K (.exit 0) ⟨34, [.undef, .undef, .str (stringOf (nth σ.slots 2)), .undef, .undef, .undef, .undef, .undef, .undef, .undef, .undef, .undef, .undef, .undef, .undef, .undef, .undef, .undef, .undef, .list (.pair .str (.int .i64)) (listOf (.pair .str (.int .i64)) (nth σ.slots 19)) .no, .int .i64 (intOf (nth σ.slots 20)), .int .i64 v, .undef, .undef, .undef, .undef, .undef, .undef, .undef, .undef, .undef, .undef, .undef, .undef], [[], [], [], [], [], [], [], [], [], [], [], [], [], [], [], [], [], [], [], [], [], [], [], [], [], [], [], [], [], [], [], [], [], [], [.list (.pair .str (.list (.pair .str (.int .i64)))) (listOf (.pair .str (.list (.pair .str (.int .i64)))) (nth (nthB σ.boxes 34) 0)) (.own false false)]]⟩) else lf p σ K) else lf p σ K
theorem L24v1_0_d (k : Nat) (κ : Res → Option Res) (h : ∀ (p0 : ByteArray) (p1 : (List (ByteArray × Int))) (p2 : Int) (p3 : Int) (p4 : (List (ByteArray × (List (ByteArray × Int))))) (K : Cont), (ev Try.prog cfg k).loop 24 1 κ [true, true, false, true, false] ⟨34, [.undef, .undef, .str p0, .undef, .undef, .undef, .undef, .undef, .undef, .undef, .undef, .undef, .undef, .undef, .undef, .undef, .undef, .undef, .undef, .list (.pair .str (.int .i64)) p1 .no, .int .i64 p2, .int .i64 p3, .undef, .undef, .undef, .undef, .undef, .undef, .undef, .undef, .undef, .undef, .undef, .undef], [[], [], [], [], [], [], [], [], [], [], [], [], [], [], [], [], [], [], [], [], [], [], [], [], [], [], [], [], [], [], [], [], [], [], [.list (.pair .str (.list (.pair .str (.int .i64)))) p4 (.own false false)]]⟩ K = L24v1_0 k (fun x => κ ((.tup [.int .i64 x.1, .int .i64 x.2.1], [[.list (.pair .str (.list (.pair .str (.int .i64)))) x.2.2 (.own false false)]]) : Res)) p0 p1 p2 p3 p4 (fun v => K (.exit 0) ⟨34, [.undef, .undef, .str p0, .undef, .undef, .undef, .undef, .undef, .undef, .undef, .undef, .undef, .undef, .undef, .undef, .undef, .undef, .undef, .undef, .list (.pair .str (.int .i64)) p1 .no, .int .i64 p2, .int .i64 v, .undef, .undef, .undef, .undef, .undef, .undef, .undef, .undef, .undef, .undef, .undef, .undef], [[], [], [], [], [], [], [], [], [], [], [], [], [], [], [], [], [], [], [], [], [], [], [], [], [], [], [], [], [], [], [], [], [], [], [.list (.pair .str (.list (.pair .str (.int .i64)))) p4 (.own false false)]]⟩)) : L24v1_0_m k κ ((ev Try.prog cfg k).loop 24 1 κ) = (ev Try.prog cfg k).loop 24 1 κ := by
  funext p σ K
  unfold L24v1_0_m
  split
  · rename_i hp
    split
    · rename_i hs
      have e : mkSt 34 L24v1_0_s L24v1_0_b σ = ⟨34, [.undef, .undef, .str (stringOf (nth σ.slots 2)), .undef, .undef, .undef, .undef, .undef, .undef, .undef, .undef, .undef, .undef, .undef, .undef, .undef, .undef, .undef, .undef, .list (.pair .str (.int .i64)) (listOf (.pair .str (.int .i64)) (nth σ.slots 19)) .no, .int .i64 (intOf (nth σ.slots 20)), .int .i64 (intOf (nth σ.slots 21)), .undef, .undef, .undef, .undef, .undef, .undef, .undef, .undef, .undef, .undef, .undef, .undef], [[], [], [], [], [], [], [], [], [], [], [], [], [], [], [], [], [], [], [], [], [], [], [], [], [], [], [], [], [], [], [], [], [], [], [.list (.pair .str (.list (.pair .str (.int .i64)))) (listOf (.pair .str (.list (.pair .str (.int .i64)))) (nth (nthB σ.boxes 34) 0)) (.own false false)]]⟩ := by kernel_rfl
      rw [pathEq_eq hp]
      exact (h (stringOf (nth σ.slots 2)) (listOf (.pair .str (.int .i64)) (nth σ.slots 19)) (intOf (nth σ.slots 20)) (intOf (nth σ.slots 21)) (listOf (.pair .str (.list (.pair .str (.int .i64)))) (nth (nthB σ.boxes 34) 0)) K).symm.trans (congrArg (fun s => (ev Try.prog cfg k).loop 24 1 κ [true, true, false, true, false] s K) (e.symm.trans (okSt_eq hs).symm))
    · rfl
  · rfl
theorem L24v1_0_ev : ∀ (k : Nat) (κ : Res → Option Res) (p0 : ByteArray) (p1 : (List (ByteArray × Int))) (p2 : Int) (p3 : Int) (p4 : (List (ByteArray × (List (ByteArray × Int))))) (K : Cont), (ev Try.prog cfg k).loop 24 1 κ [true, true, false, true, false] ⟨34, [.undef, .undef, .str p0, .undef, .undef, .undef, .undef, .undef, .undef, .undef, .undef, .undef, .undef, .undef, .undef, .undef, .undef, .undef, .undef, .list (.pair .str (.int .i64)) p1 .no, .int .i64 p2, .int .i64 p3, .undef, .undef, .undef, .undef, .undef, .undef, .undef, .undef, .undef, .undef, .undef, .undef], [[], [], [], [], [], [], [], [], [], [], [], [], [], [], [], [], [], [], [], [], [], [], [], [], [], [], [], [], [], [], [], [], [], [], [.list (.pair .str (.list (.pair .str (.int .i64)))) p4 (.own false false)]]⟩ K = L24v1_0 k (fun x => κ ((.tup [.int .i64 x.1, .int .i64 x.2.1], [[.list (.pair .str (.list (.pair .str (.int .i64)))) x.2.2 (.own false false)]]) : Res)) p0 p1 p2 p3 p4 (fun v => K (.exit 0) ⟨34, [.undef, .undef, .str p0, .undef, .undef, .undef, .undef, .undef, .undef, .undef, .undef, .undef, .undef, .undef, .undef, .undef, .undef, .undef, .undef, .list (.pair .str (.int .i64)) p1 .no, .int .i64 p2, .int .i64 v, .undef, .undef, .undef, .undef, .undef, .undef, .undef, .undef, .undef, .undef, .undef, .undef], [[], [], [], [], [], [], [], [], [], [], [], [], [], [], [], [], [], [], [], [], [], [], [], [], [], [], [], [], [], [], [], [], [], [], [.list (.pair .str (.list (.pair .str (.int .i64)))) p4 (.own false false)]]⟩) := by
  intro k κ
  induction k with
  | zero => intro p0 p1 p2 p3 p4 K; rfl
  | succ k ih =>
    intro p0 p1 p2 p3 p4 K
    rw [ev_loop, ← L24v1_0_d k κ ih]
    kernel_rfl
/-- (*lamplighter/schema.Schema).Field -/
def F24v1 : Nat → ByteArray → ByteArray → (List (ByteArray × (List (ByteArray × Int)))) → (Int × Int × (List (ByteArray × (List (ByteArray × Int)))) → Option Res) → Option Res
  | 0, _, _, _, _ => none
  | k + 1, a1, a2, b0_0, κ =>
  F23 k a1 b0_0 fun x1 =>
  L24v1_0 k κ a2 x1.1.2 (x1.1.2.length : Int) (0 : Int) x1.2.2 fun v2 =>
  κ ((-1 : Int), ((0 : Int), x1.2.2))
def F24v1_s : List SC := [.one (.ref 0 0), .one .str, .one .str]
def F24v1_b : List (List SC) := [[.one (.list (.pair .str (.list (.pair .str (.int .i64)))) (.own false false))]]
def F24v1_m (k : Nat) (cf : CallF) : CallF := fun f args lent κ => if Nat.beq f 24 = true then (if (okC F24v1_s args && okB F24v1_b lent) = true then F24v1 k (stringOf (nth args 1)) (stringOf (nth args 2)) (listOf (.pair .str (.list (.pair .str (.int .i64)))) (nth (nthB lent 0) 0)) (fun x => κ ((.tup [.int .i64 x.1, .int .i64 x.2.1], [[.list (.pair .str (.list (.pair .str (.int .i64)))) x.2.2 (.own false false)]]) : Res)) else cf f args lent κ) else cf f args lent κ
theorem F24v1_d (k : Nat) (h : ∀ (a1 : ByteArray) (a2 : ByteArray) (b0_0 : (List (ByteArray × (List (ByteArray × Int))))) (κ : Res → Option Res), (ev Try.prog cfg k).call 24 [.ref 0 0, .str a1, .str a2] [[.list (.pair .str (.list (.pair .str (.int .i64)))) b0_0 (.own false false)]] κ = F24v1 k a1 a2 b0_0 (fun x => κ ((.tup [.int .i64 x.1, .int .i64 x.2.1], [[.list (.pair .str (.list (.pair .str (.int .i64)))) x.2.2 (.own false false)]]) : Res))) : F24v1_m k (ev Try.prog cfg k).call = (ev Try.prog cfg k).call := by
  funext f args lent κ
  unfold F24v1_m
  split
  · rename_i hp
    split
    · rename_i hs
      rw [Bool.and_eq_true] at hs
      have e : mkC F24v1_s 0 args = [.ref 0 0, .str (stringOf (nth args 1)), .str (stringOf (nth args 2))] := by kernel_rfl
      have e' : mkB F24v1_b 0 lent = [[.list (.pair .str (.list (.pair .str (.int .i64)))) (listOf (.pair .str (.list (.pair .str (.int .i64)))) (nth (nthB lent 0) 0)) (.own false false)]] := by kernel_rfl
      obtain rfl := Nat.eq_of_beq_eq_true hp
      exact (h (stringOf (nth args 1)) (stringOf (nth args 2)) (listOf (.pair .str (.list (.pair .str (.int .i64)))) (nth (nthB lent 0) 0)) κ).symm.trans (cong2 (fun a l => (ev Try.prog cfg k).call 24 a l κ) (e.symm.trans (okC_eq hs.1).symm) (e'.symm.trans (okB_eq hs.2).symm))
    · rfl
  · rfl
theorem F24v1_ev : ∀ (k : Nat) (a1 : ByteArray) (a2 : ByteArray) (b0_0 : (List (ByteArray × (List (ByteArray × Int))))) (κ : Res → Option Res), (ev Try.prog cfg k).call 24 [.ref 0 0, .str a1, .str a2] [[.list (.pair .str (.list (.pair .str (.int .i64)))) b0_0 (.own false false)]] κ = F24v1 k a1 a2 b0_0 (fun x => κ ((.tup [.int .i64 x.1, .int .i64 x.2.1], [[.list (.pair .str (.list (.pair .str (.int .i64)))) x.2.2 (.own false false)]]) : Res)) := by
  intro k
  induction k with
  | zero => intros; rfl
  | succ k ih =>
    intro a1 a2 b0_0 κ
    refine (ev_call' Try.prog cfg k 24 1 _ _ κ (by rfl)).trans ?_
    rw [← F23_d k (F23_ev k), ← L24v1_0_d k κ (L24v1_0_ev k κ)]
    kernel_rfl
/-- (*lamplighter/schema.Schema).Len -/
def F22v1 : Nat → (List (ByteArray × (List (ByteArray × Int)))) → (Int × (List (ByteArray × (List (ByteArray × Int)))) → Option Res) → Option Res
  | 0, _, _ => none
  | k + 1, b0_0, κ =>
  κ ((b0_0.length : Int), b0_0)
def F22v1_s : List SC := [.one (.ref 0 0)]
def F22v1_b : List (List SC) := [[.one (.list (.pair .str (.list (.pair .str (.int .i64)))) (.own false false))]]
def F22v1_m (k : Nat) (cf : CallF) : CallF := fun f args lent κ => if Nat.beq f 22 = true then (if (okC F22v1_s args && okB F22v1_b lent) = true then F22v1 k (listOf (.pair .str (.list (.pair .str (.int .i64)))) (nth (nthB lent 0) 0)) (fun x => κ ((.int .i64 x.1, [[.list (.pair .str (.list (.pair .str (.int .i64)))) x.2 (.own false false)]]) : Res)) else cf f args lent κ) else cf f args lent κ
theorem F22v1_d (k : Nat) (h : ∀ (b0_0 : (List (ByteArray × (List (ByteArray × Int))))) (κ : Res → Option Res), (ev Try.prog cfg k).call 22 [.ref 0 0] [[.list (.pair .str (.list (.pair .str (.int .i64)))) b0_0 (.own false false)]] κ = F22v1 k b0_0 (fun x => κ ((.int .i64 x.1, [[.list (.pair .str (.list (.pair .str (.int .i64)))) x.2 (.own false false)]]) : Res))) : F22v1_m k (ev Try.prog cfg k).call = (ev Try.prog cfg k).call := by
  funext f args lent κ
  unfold F22v1_m
  split
  · rename_i hp
    split
    · rename_i hs
      rw [Bool.and_eq_true] at hs
      have e : mkC F22v1_s 0 args = [.ref 0 0] := by kernel_rfl
      have e' : mkB F22v1_b 0 lent = [[.list (.pair .str (.list (.pair .str (.int .i64)))) (listOf (.pair .str (.list (.pair .str (.int .i64)))) (nth (nthB lent 0) 0)) (.own false false)]] := by kernel_rfl
      obtain rfl := Nat.eq_of_beq_eq_true hp
      exact (h (listOf (.pair .str (.list (.pair .str (.int .i64)))) (nth (nthB lent 0) 0)) κ).symm.trans (cong2 (fun a l => (ev Try.prog cfg k).call 22 a l κ) (e.symm.trans (okC_eq hs.1).symm) (e'.symm.trans (okB_eq hs.2).symm))
    · rfl
  · rfl
theorem F22v1_ev : ∀ (k : Nat) (b0_0 : (List (ByteArray × (List (ByteArray × Int))))) (κ : Res → Option Res), (ev Try.prog cfg k).call 22 [.ref 0 0] [[.list (.pair .str (.list (.pair .str (.int .i64)))) b0_0 (.own false false)]] κ = F22v1 k b0_0 (fun x => κ ((.int .i64 x.1, [[.list (.pair .str (.list (.pair .str (.int .i64)))) x.2 (.own false false)]]) : Res)) := by
  intro k
  induction k with
  | zero => intros; rfl
  | succ k ih =>
    intro b0_0 κ
    refine (ev_call' Try.prog cfg k 22 1 _ _ κ (by rfl)).trans ?_
    skip
    kernel_rfl
/-- lamplighter/lamplighterlaw03.awake -/
def F15 : Nat →  (Bool → Option Res) → Option Res
  | 0, _ => none
  | k + 1, κ =>
  F78 k  fun x1 =>
  F19 k x1 (fun x2 =>
   F24 k (⟨#[67]⟩ : ByteArray) (⟨#[120]⟩ : ByteArray) fun x3 =>
   if (x2 == (0 : Int)) = true then
    (F22 k  fun x4 =>
    if (x4 == (3 : Int)) = true then
     (if (x3.1 == (1 : Int)) = true then
      (if (x3.2 == (1 : Int)) = true then
       (F16 k (⟨#[116, 114, 117, 101]⟩ : ByteArray) fun x5 =>
       if (!x5) = true then
        (F16 k (⟨#[97, 49]⟩ : ByteArray) fun x6 =>
        κ x6)
       else
        (κ false))
      else
       (κ false))
     else
      (κ false))
    else
     (κ false))
   else
    (κ false)) (fun x7 =>
   F24v1 k (⟨#[67]⟩ : ByteArray) (⟨#[120]⟩ : ByteArray) x7.2 fun x8 =>
   if (x7.1 == (0 : Int)) = true then
    (F22v1 k x8.2.2 fun x9 =>
    if (x9.1 == (3 : Int)) = true then
     (if (x8.1 == (1 : Int)) = true then
      (if (x8.2.1 == (1 : Int)) = true then
       (F16 k (⟨#[116, 114, 117, 101]⟩ : ByteArray) fun x10 =>
       if (!x10) = true then
        (F16 k (⟨#[97, 49]⟩ : ByteArray) fun x11 =>
        κ x11)
       else
        (κ false))
      else
       (κ false))
     else
      (κ false))
    else
     (κ false))
   else
    (κ false))
def F15_s : List SC := []
def F15_b : List (List SC) := []
def F15_m (k : Nat) (cf : CallF) : CallF := fun f args lent κ => if Nat.beq f 15 = true then (if (okC F15_s args && okB F15_b lent) = true then F15 k  (fun x => κ ((.bool x, []) : Res)) else cf f args lent κ) else cf f args lent κ
theorem F15_d (k : Nat) (h : ∀  (κ : Res → Option Res), (ev Try.prog cfg k).call 15 [] [] κ = F15 k  (fun x => κ ((.bool x, []) : Res))) : F15_m k (ev Try.prog cfg k).call = (ev Try.prog cfg k).call := by
  funext f args lent κ
  unfold F15_m
  split
  · rename_i hp
    split
    · rename_i hs
      rw [Bool.and_eq_true] at hs
      have e : mkC F15_s 0 args = [] := by kernel_rfl
      have e' : mkB F15_b 0 lent = [] := by kernel_rfl
      obtain rfl := Nat.eq_of_beq_eq_true hp
      exact (h  κ).symm.trans (cong2 (fun a l => (ev Try.prog cfg k).call 15 a l κ) (e.symm.trans (okC_eq hs.1).symm) (e'.symm.trans (okB_eq hs.2).symm))
    · rfl
  · rfl
theorem F15_ev : ∀ (k : Nat)  (κ : Res → Option Res), (ev Try.prog cfg k).call 15 [] [] κ = F15 k  (fun x => κ ((.bool x, []) : Res)) := by
  intro k
  induction k with
  | zero => intros; rfl
  | succ k ih =>
    intro  κ
    refine (ev_call' Try.prog cfg k 15 0 _ _ κ (by rfl)).trans ?_
    rw [← F78_d k (F78_ev k), ← F19_d k (F19_ev k), ← F24_d k (F24_ev k), ← F22_d k (F22_ev k), ← F16_d k (F16_ev k), ← F24v1_d k (F24v1_ev k), ← F22v1_d k (F22v1_ev k)]
    kernel_rfl
def L21_0 : Nat → ((List ByteArray) → Option Res) → (List ByteArray) → Int → Int → (Unit → Option Res) → Option Res
  | 0, _, _, _, _, _ => none
  | k + 1, κ, p0, p1, p2, K =>
  if decide (p2 < p1) = true then
   (none)
  else
   (K ())
def L21_0_s : List SC := [.one .nilp, .one .undef, .one .undef, .one (.list .str (.own false false)), .one .undef, .one .undef, .one (.int .i64), .one (.int .i64), .one .undef, .one .undef, .one .undef, .one .undef, .one .undef, .one .undef, .one .undef, .one .undef, .one .undef, .one .undef, .one .undef, .one .undef, .one .undef, .one .undef, .one .undef]
def L21_0_b : List (List SC) := [[], [], [], [], [], [], [], [], [], [], [], [], [], [], [], [], [], [], [], [], [], [], []]
def L21_0_m (k : Nat) (κ : Res → Option Res) (lf : LoopF) : LoopF := fun p σ K => if pathEq p [true, true, false, true, false] = true then (if okSt 23 L21_0_s L21_0_b σ = true then L21_0 k (fun x => κ ((.list .str x (.own false false), []) : Res)) (listOf .str (nth σ.slots 3)) (intOf (nth σ.slots 6)) (intOf (nth σ.slots 7)) (fun v => K (.exit 0) ⟨23, [.nilp, .undef, .undef, .list .str (listOf .str (nth σ.slots 3)) (.own false false), .undef, .undef, .int .i64 (intOf (nth σ.slots 6)), .int .i64 (intOf (nth σ.slots 7)), .undef, .undef, .undef, .undef, .undef, .undef, .undef, .undef, .undef, .undef, .undef, .undef, .undef, .undef, .undef], [[], [], [], [], [], [], [], [], [], [], [], [], [], [], [], [], [], [], [], [], [], [], []]⟩) else lf p σ K) else lf p σ K
theorem L21_0_d (k : Nat) (κ : Res → Option Res) (h : ∀ (p0 : (List ByteArray)) (p1 : Int) (p2 : Int) (K : Cont), (ev Try.prog cfg k).loop 21 0 κ [true, true, false, true, false] ⟨23, [.nilp, .undef, .undef, .list .str p0 (.own false false), .undef, .undef, .int .i64 p1, .int .i64 p2, .undef, .undef, .undef, .undef, .undef, .undef, .undef, .undef, .undef, .undef, .undef, .undef, .undef, .undef, .undef], [[], [], [], [], [], [], [], [], [], [], [], [], [], [], [], [], [], [], [], [], [], [], []]⟩ K = L21_0 k (fun x => κ ((.list .str x (.own false false), []) : Res)) p0 p1 p2 (fun v => K (.exit 0) ⟨23, [.nilp, .undef, .undef, .list .str p0 (.own false false), .undef, .undef, .int .i64 p1, .int .i64 p2, .undef, .undef, .undef, .undef, .undef, .undef, .undef, .undef, .undef, .undef, .undef, .undef, .undef, .undef, .undef], [[], [], [], [], [], [], [], [], [], [], [], [], [], [], [], [], [], [], [], [], [], [], []]⟩)) : L21_0_m k κ ((ev Try.prog cfg k).loop 21 0 κ) = (ev Try.prog cfg k).loop 21 0 κ := by
  funext p σ K
  unfold L21_0_m
  split
  · rename_i hp
    split
    · rename_i hs
      have e : mkSt 23 L21_0_s L21_0_b σ = ⟨23, [.nilp, .undef, .undef, .list .str (listOf .str (nth σ.slots 3)) (.own false false), .undef, .undef, .int .i64 (intOf (nth σ.slots 6)), .int .i64 (intOf (nth σ.slots 7)), .undef, .undef, .undef, .undef, .undef, .undef, .undef, .undef, .undef, .undef, .undef, .undef, .undef, .undef, .undef], [[], [], [], [], [], [], [], [], [], [], [], [], [], [], [], [], [], [], [], [], [], [], []]⟩ := by kernel_rfl
      rw [pathEq_eq hp]
      exact (h (listOf .str (nth σ.slots 3)) (intOf (nth σ.slots 6)) (intOf (nth σ.slots 7)) K).symm.trans (congrArg (fun s => (ev Try.prog cfg k).loop 21 0 κ [true, true, false, true, false] s K) (e.symm.trans (okSt_eq hs).symm))
    · rfl
  · rfl
theorem L21_0_ev : ∀ (k : Nat) (κ : Res → Option Res) (p0 : (List ByteArray)) (p1 : Int) (p2 : Int) (K : Cont), (ev Try.prog cfg k).loop 21 0 κ [true, true, false, true, false] ⟨23, [.nilp, .undef, .undef, .list .str p0 (.own false false), .undef, .undef, .int .i64 p1, .int .i64 p2, .undef, .undef, .undef, .undef, .undef, .undef, .undef, .undef, .undef, .undef, .undef, .undef, .undef, .undef, .undef], [[], [], [], [], [], [], [], [], [], [], [], [], [], [], [], [], [], [], [], [], [], [], []]⟩ K = L21_0 k (fun x => κ ((.list .str x (.own false false), []) : Res)) p0 p1 p2 (fun v => K (.exit 0) ⟨23, [.nilp, .undef, .undef, .list .str p0 (.own false false), .undef, .undef, .int .i64 p1, .int .i64 p2, .undef, .undef, .undef, .undef, .undef, .undef, .undef, .undef, .undef, .undef, .undef, .undef, .undef, .undef, .undef], [[], [], [], [], [], [], [], [], [], [], [], [], [], [], [], [], [], [], [], [], [], [], []]⟩) := by
  intro k κ
  induction k with
  | zero => intro p0 p1 p2 K; rfl
  | succ k ih =>
    intro p0 p1 p2 K
    rw [ev_loop, ← L21_0_d k κ ih]
    kernel_rfl
/-- (*lamplighter/schema.Schema).Names -/
def F21 : Nat →  ((List ByteArray) → Option Res) → Option Res
  | 0, _ => none
  | k + 1, κ =>
  F22 k  fun x1 =>
  L21_0 k κ ([] : List ByteArray) x1 (0 : Int) fun v2 =>
  κ ([] : List ByteArray)
def F21_s : List SC := [.one .nilp]
def F21_b : List (List SC) := []
def F21_m (k : Nat) (cf : CallF) : CallF := fun f args lent κ => if Nat.beq f 21 = true then (if (okC F21_s args && okB F21_b lent) = true then F21 k  (fun x => κ ((.list .str x (.own false false), []) : Res)) else cf f args lent κ) else cf f args lent κ
theorem F21_d (k : Nat) (h : ∀  (κ : Res → Option Res), (ev Try.prog cfg k).call 21 [.nilp] [] κ = F21 k  (fun x => κ ((.list .str x (.own false false), []) : Res))) : F21_m k (ev Try.prog cfg k).call = (ev Try.prog cfg k).call := by
  funext f args lent κ
  unfold F21_m
  split
  · rename_i hp
    split
    · rename_i hs
      rw [Bool.and_eq_true] at hs
      have e : mkC F21_s 0 args = [.nilp] := by kernel_rfl
      have e' : mkB F21_b 0 lent = [] := by kernel_rfl
      obtain rfl := Nat.eq_of_beq_eq_true hp
      exact (h  κ).symm.trans (cong2 (fun a l => (ev Try.prog cfg k).call 21 a l κ) (e.symm.trans (okC_eq hs.1).symm) (e'.symm.trans (okB_eq hs.2).symm))
    · rfl
  · rfl
theorem F21_ev : ∀ (k : Nat)  (κ : Res → Option Res), (ev Try.prog cfg k).call 21 [.nilp] [] κ = F21 k  (fun x => κ ((.list .str x (.own false false), []) : Res)) := by
  intro k
  induction k with
  | zero => intros; rfl
  | succ k ih =>
    intro  κ
    refine (ev_call' Try.prog cfg k 21 0 _ _ κ (by rfl)).trans ?_
    rw [← F22_d k (F22_ev k), ← L21_0_d k κ (L21_0_ev k κ)]
    kernel_rfl
def L5_1 : Nat → (Bool → Option Res) → (List (ByteArray × (List (ByteArray × Int)))) → Int → Int → Int → Int → ByteArray → (List (ByteArray × Int)) → (Int × (List (ByteArray × Int)) → Option Res) → Option Res
  | 0, _, _, _, _, _, _, _, _, _ => none
  | k + 1, κ, p0, p1, p2, p3, p4, p5, p6, K =>
  if decide (p4 < p2) = true then
   (if decide ((p6.length + ([((strOf ([(IntKind.wrap .u8 ((IntKind.wrap .i64 ((97 : Int) + p4))))] : List Int)), (1 : Int))] : List (ByteArray × Int)).length) * 24 ≤ 140737488355328) = true then L5_1 k κ p0 p1 p2 p3 (IntKind.wrap .i64 (p4 + (1 : Int))) p5 (p6 ++ ([((strOf ([(IntKind.wrap .u8 ((IntKind.wrap .i64 ((97 : Int) + p4))))] : List Int)), (1 : Int))] : List (ByteArray × Int))) K else none)
  else
   (K (p4, p6))
def L5_1_s : List SC := [.one .undef, .one .undef, .one .undef, .one .undef, .one .undef, .one (.list (.pair .str (.list (.pair .str (.int .i64)))) (.own false false)), .one (.int .i64), .one (.int .i64), .one (.int .i64), .one (.ref 9 0), .one (.int .i64), .one .undef, .one .undef, .one .undef, .one .undef, .one .undef, .one .undef, .one .undef, .one .undef, .one .undef, .one .undef, .one .undef, .one .undef, .one .undef, .one .undef, .one .undef, .one .undef, .one .undef, .one .undef, .one .undef, .one .undef, .one .undef, .one .undef, .one .undef, .one .undef, .one .undef, .one .undef, .one .undef, .one .undef, .one .undef, .one .undef, .one .undef, .one .undef, .one .undef, .one .undef, .one .undef, .one .undef, .one .undef, .one .undef, .one .undef, .one .undef, .one .undef, .one .undef, .one .undef, .one .undef, .one .undef, .one .undef, .one .undef, .one .undef, .one .undef, .one .undef, .one .undef, .one .undef, .one .undef, .one .undef, .one .undef, .one .undef, .one .undef, .one .undef, .one .undef, .one .undef, .one .undef, .one .undef, .one .undef, .one .undef, .one .undef, .one .undef, .one .undef, .one .undef, .one .undef, .one .undef, .one .undef, .one .undef, .one .undef, .one .undef, .one .undef, .one .undef, .one .undef, .one .undef, .one .undef, .one .undef, .one .undef, .one .undef, .one .undef, .one .undef, .one .undef, .one .undef, .one .undef, .one .undef, .one .undef, .one .undef, .one .undef, .one .undef, .one .undef]
def L5_1_b : List (List SC) := [[], [], [], [], [], [], [], [], [], [.one .str, .one (.list (.pair .str (.int .i64)) (.own false false))], [], [], [], [], [], [], [], [], [], [], [], [], [], [], [], [], [], [], [], [], [], [], [], [], [], [], [], [], [], [], [], [], [], [], [], [], [], [], [], [], [], [], [], [], [], [], [], [], [], [], [], [], [], [], [], [], [], [], [], [], [], [], [], [], [], [], [], [], [], [], [], [], [], [], [], [], [], [], [], [], [], [], [], [], [], [], [], [], [], [], [], [], [], []]
def L5_1_m (k : Nat) (κ : Res → Option Res) (lf : LoopF) : LoopF := fun p σ K => if pathEq p [true, true, true, true, false, true, false, false, true, false, false, true, false, true, false] = true then (if okSt 104 L5_1_s L5_1_b σ = true then L5_1 k (fun x => κ ((.bool x, []) : Res)) (listOf (.pair .str (.list (.pair .str (.int .i64)))) (nth σ.slots 5)) (intOf (nth σ.slots 6)) (intOf (nth σ.slots 7)) (intOf (nth σ.slots 8)) (intOf (nth σ.slots 10)) (stringOf (nth (nthB σ.boxes 9) 0)) (listOf (.pair .str (.int .i64)) (nth (nthB σ.boxes 9) 1)) (fun v => K (.exit 2) ⟨104, [.undef, .undef, .undef, .undef, .undef, .list (.pair .str (.list (.pair .str (.int .i64)))) (listOf (.pair .str (.list (.pair .str (.int .i64)))) (nth σ.slots 5)) (.own false false), .int .i64 (intOf (nth σ.slots 6)), .int .i64 (intOf (nth σ.slots 7)), .int .i64 (intOf (nth σ.slots 8)), .ref 9 0, .int .i64 v.1, .undef, .undef, .undef, .undef, .undef, .undef, .undef, .undef, .undef, .undef, .undef, .undef, .undef, .undef, .undef, .undef, .undef, .undef, .undef, .undef, .undef, .undef, .undef, .undef, .undef, .undef, .undef, .undef, .undef, .undef, .undef, .undef, .undef, .undef, .undef, .undef, .undef, .undef, .undef, .undef, .undef, .undef, .undef, .undef, .undef, .undef, .undef, .undef, .undef, .undef, .undef, .undef, .undef, .undef, .undef, .undef, .undef, .undef, .undef, .undef, .undef, .undef, .undef, .undef, .undef, .undef, .undef, .undef, .undef, .undef, .undef, .undef, .undef, .undef, .undef, .undef, .undef, .undef, .undef, .undef, .undef, .undef, .undef, .undef, .undef, .undef, .undef, .undef, .undef, .undef, .undef, .undef, .undef], [[], [], [], [], [], [], [], [], [], [.str (stringOf (nth (nthB σ.boxes 9) 0)), .list (.pair .str (.int .i64)) v.2 (.own false false)], [], [], [], [], [], [], [], [], [], [], [], [], [], [], [], [], [], [], [], [], [], [], [], [], [], [], [], [], [], [], [], [], [], [], [], [], [], [], [], [], [], [], [], [], [], [], [], [], [], [], [], [], [], [], [], [], [], [], [], [], [], [], [], [], [], [], [], [], [], [], [], [], [], [], [], [], [], [], [], [], [], [], [], [], [], [], [], [], [], [], [], [], [], []]⟩) else lf p σ K) else lf p σ K
theorem L5_1_d (k : Nat) (κ : Res → Option Res) (h : ∀ (p0 : (List (ByteArray × (List (ByteArray × Int))))) (p1 : Int) (p2 : Int) (p3 : Int) (p4 : Int) (p5 : ByteArray) (p6 : (List (ByteArray × Int))) (K : Cont), (ev Try.prog cfg k).loop 5 0 κ [true, true, true, true, false, true, false, false, true, false, false, true, false, true, false] ⟨104, [.undef, .undef, .undef, .undef, .undef, .list (.pair .str (.list (.pair .str (.int .i64)))) p0 (.own false false), .int .i64 p1, .int .i64 p2, .int .i64 p3, .ref 9 0, .int .i64 p4, .undef, .undef, .undef, .undef, .undef, .undef, .undef, .undef, .undef, .undef, .undef, .undef, .undef, .undef, .undef, .undef, .undef, .undef, .undef, .undef, .undef, .undef, .undef, .undef, .undef, .undef, .undef, .undef, .undef, .undef, .undef, .undef, .undef, .undef, .undef, .undef, .undef, .undef, .undef, .undef, .undef, .undef, .undef, .undef, .undef, .undef, .undef, .undef, .undef, .undef, .undef, .undef, .undef, .undef, .undef, .undef, .undef, .undef, .undef, .undef, .undef, .undef, .undef, .undef, .undef, .undef, .undef, .undef, .undef, .undef, .undef, .undef, .undef, .undef, .undef, .undef, .undef, .undef, .undef, .undef, .undef, .undef, .undef, .undef, .undef, .undef, .undef, .undef, .undef, .undef, .undef, .undef, .undef], [[], [], [], [], [], [], [], [], [], [.str p5, .list (.pair .str (.int .i64)) p6 (.own false false)], [], [], [], [], [], [], [], [], [], [], [], [], [], [], [], [], [], [], [], [], [], [], [], [], [], [], [], [], [], [], [], [], [], [], [], [], [], [], [], [], [], [], [], [], [], [], [], [], [], [], [], [], [], [], [], [], [], [], [], [], [], [], [], [], [], [], [], [], [], [], [], [], [], [], [], [], [], [], [], [], [], [], [], [], [], [], [], [], [], [], [], [], [], []]⟩ K = L5_1 k (fun x => κ ((.bool x, []) : Res)) p0 p1 p2 p3 p4 p5 p6 (fun v => K (.exit 2) ⟨104, [.undef, .undef, .undef, .undef, .undef, .list (.pair .str (.list (.pair .str (.int .i64)))) p0 (.own false false), .int .i64 p1, .int .i64 p2, .int .i64 p3, .ref 9 0, .int .i64 v.1, .undef, .undef, .undef, .undef, .undef, .undef, .undef, .undef, .undef, .undef, .undef, .undef, .undef, .undef, .undef, .undef, .undef, .undef, .undef, .undef, .undef, .undef, .undef, .undef, .undef, .undef, .undef, .undef, .undef, .undef, .undef, .undef, .undef, .undef, .undef, .undef, .undef, .undef, .undef, .undef, .undef, .undef, .undef, .undef, .undef, .undef, .undef, .undef, .undef, .undef, .undef, .undef, .undef, .undef, .undef, .undef, .undef, .undef, .undef, .undef, .undef, .undef, .undef, .undef, .undef, .undef, .undef, .undef, .undef, .undef, .undef, .undef, .undef, .undef, .undef, .undef, .undef, .undef, .undef, .undef, .undef, .undef, .undef, .undef, .undef, .undef, .undef, .undef, .undef, .undef, .undef, .undef, .undef], [[], [], [], [], [], [], [], [], [], [.str p5, .list (.pair .str (.int .i64)) v.2 (.own false false)], [], [], [], [], [], [], [], [], [], [], [], [], [], [], [], [], [], [], [], [], [], [], [], [], [], [], [], [], [], [], [], [], [], [], [], [], [], [], [], [], [], [], [], [], [], [], [], [], [], [], [], [], [], [], [], [], [], [], [], [], [], [], [], [], [], [], [], [], [], [], [], [], [], [], [], [], [], [], [], [], [], [], [], [], [], [], [], [], [], [], [], [], [], []]⟩)) : L5_1_m k κ ((ev Try.prog cfg k).loop 5 0 κ) = (ev Try.prog cfg k).loop 5 0 κ := by
  funext p σ K
  unfold L5_1_m
  split
  · rename_i hp
    split
    · rename_i hs
      have e : mkSt 104 L5_1_s L5_1_b σ = ⟨104, [.undef, .undef, .undef, .undef, .undef, .list (.pair .str (.list (.pair .str (.int .i64)))) (listOf (.pair .str (.list (.pair .str (.int .i64)))) (nth σ.slots 5)) (.own false false), .int .i64 (intOf (nth σ.slots 6)), .int .i64 (intOf (nth σ.slots 7)), .int .i64 (intOf (nth σ.slots 8)), .ref 9 0, .int .i64 (intOf (nth σ.slots 10)), .undef, .undef, .undef, .undef, .undef, .undef, .undef, .undef, .undef, .undef, .undef, .undef, .undef, .undef, .undef, .undef, .undef, .undef, .undef, .undef, .undef, .undef, .undef, .undef, .undef, .undef, .undef, .undef, .undef, .undef, .undef, .undef, .undef, .undef, .undef, .undef, .undef, .undef, .undef, .undef, .undef, .undef, .undef, .undef, .undef, .undef, .undef, .undef, .undef, .undef, .undef, .undef, .undef, .undef, .undef, .undef, .undef, .undef, .undef, .undef, .undef, .undef, .undef, .undef, .undef, .undef, .undef, .undef, .undef, .undef, .undef, .undef, .undef, .undef, .undef, .undef, .undef, .undef, .undef, .undef, .undef, .undef, .undef, .undef, .undef, .undef, .undef, .undef, .undef, .undef, .undef, .undef, .undef], [[], [], [], [], [], [], [], [], [], [.str (stringOf (nth (nthB σ.boxes 9) 0)), .list (.pair .str (.int .i64)) (listOf (.pair .str (.int .i64)) (nth (nthB σ.boxes 9) 1)) (.own false false)], [], [], [], [], [], [], [], [], [], [], [], [], [], [], [], [], [], [], [], [], [], [], [], [], [], [], [], [], [], [], [], [], [], [], [], [], [], [], [], [], [], [], [], [], [], [], [], [], [], [], [], [], [], [], [], [], [], [], [], [], [], [], [], [], [], [], [], [], [], [], [], [], [], [], [], [], [], [], [], [], [], [], [], [], [], [], [], [], [], [], [], [], [], []]⟩ := by kernel_rfl
      rw [pathEq_eq hp]
      exact (h (listOf (.pair .str (.list (.pair .str (.int .i64)))) (nth σ.slots 5)) (intOf (nth σ.slots 6)) (intOf (nth σ.slots 7)) (intOf (nth σ.slots 8)) (intOf (nth σ.slots 10)) (stringOf (nth (nthB σ.boxes 9) 0)) (listOf (.pair .str (.int .i64)) (nth (nthB σ.boxes 9) 1)) K).symm.trans (congrArg (fun s => (ev Try.prog cfg k).loop 5 0 κ [true, true, true, true, false, true, false, false, true, false, false, true, false, true, false] s K) (e.symm.trans (okSt_eq hs).symm))
    · rfl
  · rfl
theorem L5_1_ev : ∀ (k : Nat) (κ : Res → Option Res) (p0 : (List (ByteArray × (List (ByteArray × Int))))) (p1 : Int) (p2 : Int) (p3 : Int) (p4 : Int) (p5 : ByteArray) (p6 : (List (ByteArray × Int))) (K : Cont), (ev Try.prog cfg k).loop 5 0 κ [true, true, true, true, false, true, false, false, true, false, false, true, false, true, false] ⟨104, [.undef, .undef, .undef, .undef, .undef, .list (.pair .str (.list (.pair .str (.int .i64)))) p0 (.own false false), .int .i64 p1, .int .i64 p2, .int .i64 p3, .ref 9 0, .int .i64 p4, .undef, .undef, .undef, .undef, .undef, .undef, .undef, .undef, .undef, .undef, .undef, .undef, .undef, .undef, .undef, .undef, .undef, .undef, .undef, .undef, .undef, .undef, .undef, .undef, .undef, .undef, .undef, .undef, .undef, .undef, .undef, .undef, .undef, .undef, .undef, .undef, .undef, .undef, .undef, .undef, .undef, .undef, .undef, .undef, .undef, .undef, .undef, .undef, .undef, .undef, .undef, .undef, .undef, .undef, .undef, .undef, .undef, .undef, .undef, .undef, .undef, .undef, .undef, .undef, .undef, .undef, .undef, .undef, .undef, .undef, .undef, .undef, .undef, .undef, .undef, .undef, .undef, .undef, .undef, .undef, .undef, .undef, .undef, .undef, .undef, .undef, .undef, .undef, .undef, .undef, .undef, .undef, .undef], [[], [], [], [], [], [], [], [], [], [.str p5, .list (.pair .str (.int .i64)) p6 (.own false false)], [], [], [], [], [], [], [], [], [], [], [], [], [], [], [], [], [], [], [], [], [], [], [], [], [], [], [], [], [], [], [], [], [], [], [], [], [], [], [], [], [], [], [], [], [], [], [], [], [], [], [], [], [], [], [], [], [], [], [], [], [], [], [], [], [], [], [], [], [], [], [], [], [], [], [], [], [], [], [], [], [], [], [], [], [], [], [], [], [], [], [], [], [], []]⟩ K = L5_1 k (fun x => κ ((.bool x, []) : Res)) p0 p1 p2 p3 p4 p5 p6 (fun v => K (.exit 2) ⟨104, [.undef, .undef, .undef, .undef, .undef, .list (.pair .str (.list (.pair .str (.int .i64)))) p0 (.own false false), .int .i64 p1, .int .i64 p2, .int .i64 p3, .ref 9 0, .int .i64 v.1, .undef, .undef, .undef, .undef, .undef, .undef, .undef, .undef, .undef, .undef, .undef, .undef, .undef, .undef, .undef, .undef, .undef, .undef, .undef, .undef, .undef, .undef, .undef, .undef, .undef, .undef, .undef, .undef, .undef, .undef, .undef, .undef, .undef, .undef, .undef, .undef, .undef, .undef, .undef, .undef, .undef, .undef, .undef, .undef, .undef, .undef, .undef, .undef, .undef, .undef, .undef, .undef, .undef, .undef, .undef, .undef, .undef, .undef, .undef, .undef, .undef, .undef, .undef, .undef, .undef, .undef, .undef, .undef, .undef, .undef, .undef, .undef, .undef, .undef, .undef, .undef, .undef, .undef, .undef, .undef, .undef, .undef, .undef, .undef, .undef, .undef, .undef, .undef, .undef, .undef, .undef, .undef, .undef], [[], [], [], [], [], [], [], [], [], [.str p5, .list (.pair .str (.int .i64)) v.2 (.own false false)], [], [], [], [], [], [], [], [], [], [], [], [], [], [], [], [], [], [], [], [], [], [], [], [], [], [], [], [], [], [], [], [], [], [], [], [], [], [], [], [], [], [], [], [], [], [], [], [], [], [], [], [], [], [], [], [], [], [], [], [], [], [], [], [], [], [], [], [], [], [], [], [], [], [], [], [], [], [], [], [], [], [], [], [], [], [], [], [], [], [], [], [], [], []]⟩) := by
  intro k κ
  induction k with
  | zero => intro p0 p1 p2 p3 p4 p5 p6 K; rfl
  | succ k ih =>
    intro p0 p1 p2 p3 p4 p5 p6 K
    rw [ev_loop, ← L5_1_d k κ ih]
    kernel_rfl
def L5_0 : Nat → (Bool → Option Res) → (List (ByteArray × (List (ByteArray × Int)))) → Int → Int → Int → ((List (ByteArray × (List (ByteArray × Int)))) × Int → Option Res) → Option Res
  | 0, _, _, _, _, _, _ => none
  | k + 1, κ, p0, p1, p2, p3, K =>
  if decide (p3 < p1) = true then
   (L5_1 k κ p0 p1 p2 p3 (0 : Int) (strOf ([(IntKind.wrap .u8 ((IntKind.wrap .i64 ((65 : Int) + p3))))] : List Int)) ([] : List (ByteArray × Int)) fun v1 =>
   if decide ((p0.length + ([((strOf ([(IntKind.wrap .u8 ((IntKind.wrap .i64 ((65 : Int) + p3))))] : List Int)), v1.2)] : List (ByteArray × (List (ByteArray × Int)))).length) * 40 ≤ 140737488355328) = true then L5_0 k κ (p0 ++ ([((strOf ([(IntKind.wrap .u8 ((IntKind.wrap .i64 ((65 : Int) + p3))))] : List Int)), v1.2)] : List (ByteArray × (List (ByteArray × Int))))) p1 p2 (IntKind.wrap .i64 (p3 + (1 : Int))) K else none)
  else
   (K (p0, p3))
def L5_0_s : List SC := [.one .undef, .one .undef, .one .undef, .one .undef, .one .undef, .one (.list (.pair .str (.list (.pair .str (.int .i64)))) (.own false false)), .one (.int .i64), .one (.int .i64), .one (.int .i64), .one .undef, .one .undef, .one .undef, .one .undef, .one .undef, .one .undef, .one .undef, .one .undef, .one .undef, .one .undef, .one .undef, .one .undef, .one .undef, .one .undef, .one .undef, .one .undef, .one .undef, .one .undef, .one .undef, .one .undef, .one .undef, .one .undef, .one .undef, .one .undef, .one .undef, .one .undef, .one .undef, .one .undef, .one .undef, .one .undef, .one .undef, .one .undef, .one .undef, .one .undef, .one .undef, .one .undef, .one .undef, .one .undef, .one .undef, .one .undef, .one .undef, .one .undef, .one .undef, .one .undef, .one .undef, .one .undef, .one .undef, .one .undef, .one .undef, .one .undef, .one .undef, .one .undef, .one .undef, .one .undef, .one .undef, .one .undef, .one .undef, .one .undef, .one .undef, .one .undef, .one .undef, .one .undef, .one .undef, .one .undef, .one .undef, .one .undef, .one .undef, .one .undef, .one .undef, .one .undef, .one .undef, .one .undef, .one .undef, .one .undef, .one .undef, .one .undef, .one .undef, .one .undef, .one .undef, .one .undef, .one .undef, .one .undef, .one .undef, .one .undef, .one .undef, .one .undef, .one .undef, .one .undef, .one .undef, .one .undef, .one .undef, .one .undef, .one .undef, .one .undef, .one .undef]
def L5_0_b : List (List SC) := [[], [], [], [], [], [], [], [], [], [], [], [], [], [], [], [], [], [], [], [], [], [], [], [], [], [], [], [], [], [], [], [], [], [], [], [], [], [], [], [], [], [], [], [], [], [], [], [], [], [], [], [], [], [], [], [], [], [], [], [], [], [], [], [], [], [], [], [], [], [], [], [], [], [], [], [], [], [], [], [], [], [], [], [], [], [], [], [], [], [], [], [], [], [], [], [], [], [], [], [], [], [], [], []]
def L5_0_m (k : Nat) (κ : Res → Option Res) (lf : LoopF) : LoopF := fun p σ K => if pathEq p [true, true, true, true, false, true, false] = true then (if okSt 104 L5_0_s L5_0_b σ = true then L5_0 k (fun x => κ ((.bool x, []) : Res)) (listOf (.pair .str (.list (.pair .str (.int .i64)))) (nth σ.slots 5)) (intOf (nth σ.slots 6)) (intOf (nth σ.slots 7)) (intOf (nth σ.slots 8)) (fun v => K (.exit 0) ⟨104, [.undef, .undef, .undef, .undef, .undef, .list (.pair .str (.list (.pair .str (.int .i64)))) v.1 (.own false false), .int .i64 (intOf (nth σ.slots 6)), .int .i64 (intOf (nth σ.slots 7)), .int .i64 v.2, .undef, .undef, .undef, .undef, .undef, .undef, .undef, .undef, .undef, .undef, .undef, .undef, .undef, .undef, .undef, .undef, .undef, .undef, .undef, .undef, .undef, .undef, .undef, .undef, .undef, .undef, .undef, .undef, .undef, .undef, .undef, .undef, .undef, .undef, .undef, .undef, .undef, .undef, .undef, .undef, .undef, .undef, .undef, .undef, .undef, .undef, .undef, .undef, .undef, .undef, .undef, .undef, .undef, .undef, .undef, .undef, .undef, .undef, .undef, .undef, .undef, .undef, .undef, .undef, .undef, .undef, .undef, .undef, .undef, .undef, .undef, .undef, .undef, .undef, .undef, .undef, .undef, .undef, .undef, .undef, .undef, .undef, .undef, .undef, .undef, .undef, .undef, .undef, .undef, .undef, .undef, .undef, .undef, .undef, .undef], [[], [], [], [], [], [], [], [], [], [], [], [], [], [], [], [], [], [], [], [], [], [], [], [], [], [], [], [], [], [], [], [], [], [], [], [], [], [], [], [], [], [], [], [], [], [], [], [], [], [], [], [], [], [], [], [], [], [], [], [], [], [], [], [], [], [], [], [], [], [], [], [], [], [], [], [], [], [], [], [], [], [], [], [], [], [], [], [], [], [], [], [], [], [], [], [], [], [], [], [], [], [], [], []]⟩) else lf p σ K) else lf p σ K
theorem L5_0_d (k : Nat) (κ : Res → Option Res) (h : ∀ (p0 : (List (ByteArray × (List (ByteArray × Int))))) (p1 : Int) (p2 : Int) (p3 : Int) (K : Cont), (ev Try.prog cfg k).loop 5 0 κ [true, true, true, true, false, true, false] ⟨104, [.undef, .undef, .undef, .undef, .undef, .list (.pair .str (.list (.pair .str (.int .i64)))) p0 (.own false false), .int .i64 p1, .int .i64 p2, .int .i64 p3, .undef, .undef, .undef, .undef, .undef, .undef, .undef, .undef, .undef, .undef, .undef, .undef, .undef, .undef, .undef, .undef, .undef, .undef, .undef, .undef, .undef, .undef, .undef, .undef, .undef, .undef, .undef, .undef, .undef, .undef, .undef, .undef, .undef, .undef, .undef, .undef, .undef, .undef, .undef, .undef, .undef, .undef, .undef, .undef, .undef, .undef, .undef, .undef, .undef, .undef, .undef, .undef, .undef, .undef, .undef, .undef, .undef, .undef, .undef, .undef, .undef, .undef, .undef, .undef, .undef, .undef, .undef, .undef, .undef, .undef, .undef, .undef, .undef, .undef, .undef, .undef, .undef, .undef, .undef, .undef, .undef, .undef, .undef, .undef, .undef, .undef, .undef, .undef, .undef, .undef, .undef, .undef, .undef, .undef, .undef], [[], [], [], [], [], [], [], [], [], [], [], [], [], [], [], [], [], [], [], [], [], [], [], [], [], [], [], [], [], [], [], [], [], [], [], [], [], [], [], [], [], [], [], [], [], [], [], [], [], [], [], [], [], [], [], [], [], [], [], [], [], [], [], [], [], [], [], [], [], [], [], [], [], [], [], [], [], [], [], [], [], [], [], [], [], [], [], [], [], [], [], [], [], [], [], [], [], [], [], [], [], [], [], []]⟩ K = L5_0 k (fun x => κ ((.bool x, []) : Res)) p0 p1 p2 p3 (fun v => K (.exit 0) ⟨104, [.undef, .undef, .undef, .undef, .undef, .list (.pair .str (.list (.pair .str (.int .i64)))) v.1 (.own false false), .int .i64 p1, .int .i64 p2, .int .i64 v.2, .undef, .undef, .undef, .undef, .undef, .undef, .undef, .undef, .undef, .undef, .undef, .undef, .undef, .undef, .undef, .undef, .undef, .undef, .undef, .undef, .undef, .undef, .undef, .undef, .undef, .undef, .undef, .undef, .undef, .undef, .undef, .undef, .undef, .undef, .undef, .undef, .undef, .undef, .undef, .undef, .undef, .undef, .undef, .undef, .undef, .undef, .undef, .undef, .undef, .undef, .undef, .undef, .undef, .undef, .undef, .undef, .undef, .undef, .undef, .undef, .undef, .undef, .undef, .undef, .undef, .undef, .undef, .undef, .undef, .undef, .undef, .undef, .undef, .undef, .undef, .undef, .undef, .undef, .undef, .undef, .undef, .undef, .undef, .undef, .undef, .undef, .undef, .undef, .undef, .undef, .undef, .undef, .undef, .undef, .undef], [[], [], [], [], [], [], [], [], [], [], [], [], [], [], [], [], [], [], [], [], [], [], [], [], [], [], [], [], [], [], [], [], [], [], [], [], [], [], [], [], [], [], [], [], [], [], [], [], [], [], [], [], [], [], [], [], [], [], [], [], [], [], [], [], [], [], [], [], [], [], [], [], [], [], [], [], [], [], [], [], [], [], [], [], [], [], [], [], [], [], [], [], [], [], [], [], [], [], [], [], [], [], [], []]⟩)) : L5_0_m k κ ((ev Try.prog cfg k).loop 5 0 κ) = (ev Try.prog cfg k).loop 5 0 κ := by
  funext p σ K
  unfold L5_0_m
  split
  · rename_i hp
    split
    · rename_i hs
      have e : mkSt 104 L5_0_s L5_0_b σ = ⟨104, [.undef, .undef, .undef, .undef, .undef, .list (.pair .str (.list (.pair .str (.int .i64)))) (listOf (.pair .str (.list (.pair .str (.int .i64)))) (nth σ.slots 5)) (.own false false), .int .i64 (intOf (nth σ.slots 6)), .int .i64 (intOf (nth σ.slots 7)), .int .i64 (intOf (nth σ.slots 8)), .undef, .undef, .undef, .undef, .undef, .undef, .undef, .undef, .undef, .undef, .undef, .undef, .undef, .undef, .undef, .undef, .undef, .undef, .undef, .undef, .undef, .undef, .undef, .undef, .undef, .undef, .undef, .undef, .undef, .undef, .undef, .undef, .undef, .undef, .undef, .undef, .undef, .undef, .undef, .undef, .undef, .undef, .undef, .undef, .undef, .undef, .undef, .undef, .undef, .undef, .undef, .undef, .undef, .undef, .undef, .undef, .undef, .undef, .undef, .undef, .undef, .undef, .undef, .undef, .undef, .undef, .undef, .undef, .undef, .undef, .undef, .undef, .undef, .undef, .undef, .undef, .undef, .undef, .undef, .undef, .undef, .undef, .undef, .undef, .undef, .undef, .undef, .undef, .undef, .undef, .undef, .undef, .undef, .undef, .undef], [[], [], [], [], [], [], [], [], [], [], [], [], [], [], [], [], [], [], [], [], [], [], [], [], [], [], [], [], [], [], [], [], [], [], [], [], [], [], [], [], [], [], [], [], [], [], [], [], [], [], [], [], [], [], [], [], [], [], [], [], [], [], [], [], [], [], [], [], [], [], [], [], [], [], [], [], [], [], [], [], [], [], [], [], [], [], [], [], [], [], [], [], [], [], [], [], [], [], [], [], [], [], [], []]⟩ := by kernel_rfl
      rw [pathEq_eq hp]
      exact (h (listOf (.pair .str (.list (.pair .str (.int .i64)))) (nth σ.slots 5)) (intOf (nth σ.slots 6)) (intOf (nth σ.slots 7)) (intOf (nth σ.slots 8)) K).symm.trans (congrArg (fun s => (ev Try.prog cfg k).loop 5 0 κ [true, true, true, true, false, true, false] s K) (e.symm.trans (okSt_eq hs).symm))
    · rfl
  · rfl
theorem L5_0_ev : ∀ (k : Nat) (κ : Res → Option Res) (p0 : (List (ByteArray × (List (ByteArray × Int))))) (p1 : Int) (p2 : Int) (p3 : Int) (K : Cont), (ev Try.prog cfg k).loop 5 0 κ [true, true, true, true, false, true, false] ⟨104, [.undef, .undef, .undef, .undef, .undef, .list (.pair .str (.list (.pair .str (.int .i64)))) p0 (.own false false), .int .i64 p1, .int .i64 p2, .int .i64 p3, .undef, .undef, .undef, .undef, .undef, .undef, .undef, .undef, .undef, .undef, .undef, .undef, .undef, .undef, .undef, .undef, .undef, .undef, .undef, .undef, .undef, .undef, .undef, .undef, .undef, .undef, .undef, .undef, .undef, .undef, .undef, .undef, .undef, .undef, .undef, .undef, .undef, .undef, .undef, .undef, .undef, .undef, .undef, .undef, .undef, .undef, .undef, .undef, .undef, .undef, .undef, .undef, .undef, .undef, .undef, .undef, .undef, .undef, .undef, .undef, .undef, .undef, .undef, .undef, .undef, .undef, .undef, .undef, .undef, .undef, .undef, .undef, .undef, .undef, .undef, .undef, .undef, .undef, .undef, .undef, .undef, .undef, .undef, .undef, .undef, .undef, .undef, .undef, .undef, .undef, .undef, .undef, .undef, .undef, .undef], [[], [], [], [], [], [], [], [], [], [], [], [], [], [], [], [], [], [], [], [], [], [], [], [], [], [], [], [], [], [], [], [], [], [], [], [], [], [], [], [], [], [], [], [], [], [], [], [], [], [], [], [], [], [], [], [], [], [], [], [], [], [], [], [], [], [], [], [], [], [], [], [], [], [], [], [], [], [], [], [], [], [], [], [], [], [], [], [], [], [], [], [], [], [], [], [], [], [], [], [], [], [], [], []]⟩ K = L5_0 k (fun x => κ ((.bool x, []) : Res)) p0 p1 p2 p3 (fun v => K (.exit 0) ⟨104, [.undef, .undef, .undef, .undef, .undef, .list (.pair .str (.list (.pair .str (.int .i64)))) v.1 (.own false false), .int .i64 p1, .int .i64 p2, .int .i64 v.2, .undef, .undef, .undef, .undef, .undef, .undef, .undef, .undef, .undef, .undef, .undef, .undef, .undef, .undef, .undef, .undef, .undef, .undef, .undef, .undef, .undef, .undef, .undef, .undef, .undef, .undef, .undef, .undef, .undef, .undef, .undef, .undef, .undef, .undef, .undef, .undef, .undef, .undef, .undef, .undef, .undef, .undef, .undef, .undef, .undef, .undef, .undef, .undef, .undef, .undef, .undef, .undef, .undef, .undef, .undef, .undef, .undef, .undef, .undef, .undef, .undef, .undef, .undef, .undef, .undef, .undef, .undef, .undef, .undef, .undef, .undef, .undef, .undef, .undef, .undef, .undef, .undef, .undef, .undef, .undef, .undef, .undef, .undef, .undef, .undef, .undef, .undef, .undef, .undef, .undef, .undef, .undef, .undef, .undef, .undef], [[], [], [], [], [], [], [], [], [], [], [], [], [], [], [], [], [], [], [], [], [], [], [], [], [], [], [], [], [], [], [], [], [], [], [], [], [], [], [], [], [], [], [], [], [], [], [], [], [], [], [], [], [], [], [], [], [], [], [], [], [], [], [], [], [], [], [], [], [], [], [], [], [], [], [], [], [], [], [], [], [], [], [], [], [], [], [], [], [], [], [], [], [], [], [], [], [], [], [], [], [], [], [], []]⟩) := by
  intro k κ
  induction k with
  | zero => intro p0 p1 p2 p3 K; rfl
  | succ k ih =>
    intro p0 p1 p2 p3 K
    rw [ev_loop, ← L5_0_d k κ ih, ← L5_1_d k κ (L5_1_ev k κ)]
    kernel_rfl
end Go.Proofs.Ytcnoaflojojfkac.SchM
