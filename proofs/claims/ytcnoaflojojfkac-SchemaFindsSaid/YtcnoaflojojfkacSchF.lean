/- The functions that 'lamplighter/lamplighterlaw03.SchemaFinds' reaches, over lists and numbers, and that the machine of values comes to them (printed by wip/vm/gen.py). No condition. -/
import Derived.Test.YtcnoaflojojfkacSchFA
namespace Go.Proofs.Ytcnoaflojojfkac.SchF
open Go Go.Proofs.Ytcnoaflojojfkac.Vm
set_option linter.unusedVariables false
set_option maxRecDepth 100000
def L20_1 : Nat → (Int → Option Res) → (List (ByteArray × (List (ByteArray × Int)))) → Int → Int → (Int → Option Res) → Option Res
  | 0, _, _, _, _, _ => none
  | k + 1, κ, p0, p1, p2, K =>
  if (decide ((0 : Int) ≤ p1) && decide (p1 < (p0.length : Int))) = true then
   (if decide (p2 < (((p0.getD p1.toNat ((⟨#[]⟩ : ByteArray), ([] : List (ByteArray × Int)))).2).length : Int)) = true then
    (if (decide ((0 : Int) ≤ p1) && decide (p1 < (p0.length : Int))) = true then
     (if (decide ((0 : Int) ≤ p2) && decide (p2 < (((p0.getD p1.toNat ((⟨#[]⟩ : ByteArray), ([] : List (ByteArray × Int)))).2).length : Int))) = true then
      (F17 k ((((p0.getD p1.toNat ((⟨#[]⟩ : ByteArray), ([] : List (ByteArray × Int)))).2).getD p2.toNat ((⟨#[]⟩ : ByteArray), (0 : Int))).1) fun x2 =>
      if (!x2) = true then
       (κ (1 : Int))
      else
       (if decide (((((p0.getD p1.toNat ((⟨#[]⟩ : ByteArray), ([] : List (ByteArray × Int)))).2).getD p2.toNat ((⟨#[]⟩ : ByteArray), (0 : Int))).2) < (1 : Int)) = true then
        (κ (1 : Int))
       else
        (if decide (((((p0.getD p1.toNat ((⟨#[]⟩ : ByteArray), ([] : List (ByteArray × Int)))).2).getD p2.toNat ((⟨#[]⟩ : ByteArray), (0 : Int))).2) > (3 : Int)) = true then
         (κ (1 : Int))
        else
         (L20_2 k κ p0 p1 p2 (0 : Int) ((((p0.getD p1.toNat ((⟨#[]⟩ : ByteArray), ([] : List (ByteArray × Int)))).2).getD p2.toNat ((⟨#[]⟩ : ByteArray), (0 : Int))).1) ((((p0.getD p1.toNat ((⟨#[]⟩ : ByteArray), ([] : List (ByteArray × Int)))).2).getD p2.toNat ((⟨#[]⟩ : ByteArray), (0 : Int))).2) fun v3 =>
         L20_1 k κ p0 p1 (IntKind.wrap .i64 (p2 + (1 : Int))) K))))
     else
      (none))
    else
     (none))
   else
    (K p2))
  else
   (none)
def L20_1_s : List SC := [.one (.list (.pair .str (.list (.pair .str (.int .i64)))) .no), .one .undef, .one .undef, .one (.int .i64), .one (.int .i64), .one .undef, .one .undef, .one .undef, .one .undef, .one .undef, .one .undef, .one .undef, .one .undef, .one .undef, .one .undef, .one .undef, .one .undef, .one .undef, .one .undef, .one .undef, .one .undef, .one .undef, .one .undef, .one .undef, .one .undef, .one .undef, .one .undef, .one .undef, .one .undef, .one .undef, .one .undef, .one .undef, .one .undef, .one .undef, .one .undef, .one .undef, .one .undef, .one .undef, .one .undef, .one .undef, .one .undef, .one .undef, .one .undef, .one .undef, .one .undef, .one .undef, .one .undef, .one .undef, .one .undef, .one .undef, .one .undef, .one .undef, .one .undef, .one .undef, .one .undef, .one .undef, .one .undef, .one .undef, .one .undef, .one .undef, .one .undef, .one .undef, .one .undef, .one .undef, .one .undef, .one .undef, .one .undef, .one .undef, .one .undef, .one .undef, .one .undef, .one .undef, .one .undef, .one .undef, .one .undef, .one .undef, .one .undef, .one .undef, .one .undef, .one .undef, .one .undef, .one .undef, .one .undef, .one .undef, .one .undef, .one .undef]
def L20_1_b : List (List SC) := [[], [], [], [], [], [], [], [], [], [], [], [], [], [], [], [], [], [], [], [], [], [], [], [], [], [], [], [], [], [], [], [], [], [], [], [], [], [], [], [], [], [], [], [], [], [], [], [], [], [], [], [], [], [], [], [], [], [], [], [], [], [], [], [], [], [], [], [], [], [], [], [], [], [], [], [], [], [], [], [], [], [], [], [], [], []]
def L20_1_m (k : Nat) (κ : Res → Option Res) (lf : LoopF) : LoopF := fun p σ K => if pathEq p [true, false, true, false, false, true, false, false, true, false, true, false] = true then (if okSt 86 L20_1_s L20_1_b σ = true then L20_1 k (fun x => κ ((.int .i64 x, []) : Res)) (listOf (.pair .str (.list (.pair .str (.int .i64)))) (nth σ.slots 0)) (intOf (nth σ.slots 3)) (intOf (nth σ.slots 4)) (fun v => K (.exit 2) ⟨86, [.list (.pair .str (.list (.pair .str (.int .i64)))) (listOf (.pair .str (.list (.pair .str (.int .i64)))) (nth σ.slots 0)) .no, .undef, .undef, .int .i64 (intOf (nth σ.slots 3)), .int .i64 v, .undef, .undef, .undef, .undef, .undef, .undef, .undef, .undef, .undef, .undef, .undef, .undef, .undef, .undef, .undef, .undef, .undef, .undef, .undef, .undef, .undef, .undef, .undef, .undef, .undef, .undef, .undef, .undef, .undef, .undef, .undef, .undef, .undef, .undef, .undef, .undef, .undef, .undef, .undef, .undef, .undef, .undef, .undef, .undef, .undef, .undef, .undef, .undef, .undef, .undef, .undef, .undef, .undef, .undef, .undef, .undef, .undef, .undef, .undef, .undef, .undef, .undef, .undef, .undef, .undef, .undef, .undef, .undef, .undef, .undef, .undef, .undef, .undef, .undef, .undef, .undef, .undef, .undef, .undef, .undef, .undef], [[], [], [], [], [], [], [], [], [], [], [], [], [], [], [], [], [], [], [], [], [], [], [], [], [], [], [], [], [], [], [], [], [], [], [], [], [], [], [], [], [], [], [], [], [], [], [], [], [], [], [], [], [], [], [], [], [], [], [], [], [], [], [], [], [], [], [], [], [], [], [], [], [], [], [], [], [], [], [], [], [], [], [], [], [], []]⟩) else lf p σ K) else lf p σ K
theorem L20_1_d (k : Nat) (κ : Res → Option Res) (h : ∀ (p0 : (List (ByteArray × (List (ByteArray × Int))))) (p1 : Int) (p2 : Int) (K : Cont), (ev Try.prog cfg k).loop 20 0 κ [true, false, true, false, false, true, false, false, true, false, true, false] ⟨86, [.list (.pair .str (.list (.pair .str (.int .i64)))) p0 .no, .undef, .undef, .int .i64 p1, .int .i64 p2, .undef, .undef, .undef, .undef, .undef, .undef, .undef, .undef, .undef, .undef, .undef, .undef, .undef, .undef, .undef, .undef, .undef, .undef, .undef, .undef, .undef, .undef, .undef, .undef, .undef, .undef, .undef, .undef, .undef, .undef, .undef, .undef, .undef, .undef, .undef, .undef, .undef, .undef, .undef, .undef, .undef, .undef, .undef, .undef, .undef, .undef, .undef, .undef, .undef, .undef, .undef, .undef, .undef, .undef, .undef, .undef, .undef, .undef, .undef, .undef, .undef, .undef, .undef, .undef, .undef, .undef, .undef, .undef, .undef, .undef, .undef, .undef, .undef, .undef, .undef, .undef, .undef, .undef, .undef, .undef, .undef], [[], [], [], [], [], [], [], [], [], [], [], [], [], [], [], [], [], [], [], [], [], [], [], [], [], [], [], [], [], [], [], [], [], [], [], [], [], [], [], [], [], [], [], [], [], [], [], [], [], [], [], [], [], [], [], [], [], [], [], [], [], [], [], [], [], [], [], [], [], [], [], [], [], [], [], [], [], [], [], [], [], [], [], [], [], []]⟩ K = L20_1 k (fun x => κ ((.int .i64 x, []) : Res)) p0 p1 p2 (fun v => K (.exit 2) ⟨86, [.list (.pair .str (.list (.pair .str (.int .i64)))) p0 .no, .undef, .undef, .int .i64 p1, .int .i64 v, .undef, .undef, .undef, .undef, .undef, .undef, .undef, .undef, .undef, .undef, .undef, .undef, .undef, .undef, .undef, .undef, .undef, .undef, .undef, .undef, .undef, .undef, .undef, .undef, .undef, .undef, .undef, .undef, .undef, .undef, .undef, .undef, .undef, .undef, .undef, .undef, .undef, .undef, .undef, .undef, .undef, .undef, .undef, .undef, .undef, .undef, .undef, .undef, .undef, .undef, .undef, .undef, .undef, .undef, .undef, .undef, .undef, .undef, .undef, .undef, .undef, .undef, .undef, .undef, .undef, .undef, .undef, .undef, .undef, .undef, .undef, .undef, .undef, .undef, .undef, .undef, .undef, .undef, .undef, .undef, .undef], [[], [], [], [], [], [], [], [], [], [], [], [], [], [], [], [], [], [], [], [], [], [], [], [], [], [], [], [], [], [], [], [], [], [], [], [], [], [], [], [], [], [], [], [], [], [], [], [], [], [], [], [], [], [], [], [], [], [], [], [], [], [], [], [], [], [], [], [], [], [], [], [], [], [], [], [], [], [], [], [], [], [], [], [], [], []]⟩)) : L20_1_m k κ ((ev Try.prog cfg k).loop 20 0 κ) = (ev Try.prog cfg k).loop 20 0 κ := by
  funext p σ K
  unfold L20_1_m
  split
  · rename_i hp
    split
    · rename_i hs
      have e : mkSt 86 L20_1_s L20_1_b σ = ⟨86, [.list (.pair .str (.list (.pair .str (.int .i64)))) (listOf (.pair .str (.list (.pair .str (.int .i64)))) (nth σ.slots 0)) .no, .undef, .undef, .int .i64 (intOf (nth σ.slots 3)), .int .i64 (intOf (nth σ.slots 4)), .undef, .undef, .undef, .undef, .undef, .undef, .undef, .undef, .undef, .undef, .undef, .undef, .undef, .undef, .undef, .undef, .undef, .undef, .undef, .undef, .undef, .undef, .undef, .undef, .undef, .undef, .undef, .undef, .undef, .undef, .undef, .undef, .undef, .undef, .undef, .undef, .undef, .undef, .undef, .undef, .undef, .undef, .undef, .undef, .undef, .undef, .undef, .undef, .undef, .undef, .undef, .undef, .undef, .undef, .undef, .undef, .undef, .undef, .undef, .undef, .undef, .undef, .undef, .undef, .undef, .undef, .undef, .undef, .undef, .undef, .undef, .undef, .undef, .undef, .undef, .undef, .undef, .undef, .undef, .undef, .undef], [[], [], [], [], [], [], [], [], [], [], [], [], [], [], [], [], [], [], [], [], [], [], [], [], [], [], [], [], [], [], [], [], [], [], [], [], [], [], [], [], [], [], [], [], [], [], [], [], [], [], [], [], [], [], [], [], [], [], [], [], [], [], [], [], [], [], [], [], [], [], [], [], [], [], [], [], [], [], [], [], [], [], [], [], [], []]⟩ := by kernel_rfl
      rw [pathEq_eq hp]
      exact (h (listOf (.pair .str (.list (.pair .str (.int .i64)))) (nth σ.slots 0)) (intOf (nth σ.slots 3)) (intOf (nth σ.slots 4)) K).symm.trans (congrArg (fun s => (ev Try.prog cfg k).loop 20 0 κ [true, false, true, false, false, true, false, false, true, false, true, false] s K) (e.symm.trans (okSt_eq hs).symm))
    · rfl
  · rfl
theorem L20_1_ev : ∀ (k : Nat) (κ : Res → Option Res) (p0 : (List (ByteArray × (List (ByteArray × Int))))) (p1 : Int) (p2 : Int) (K : Cont), (ev Try.prog cfg k).loop 20 0 κ [true, false, true, false, false, true, false, false, true, false, true, false] ⟨86, [.list (.pair .str (.list (.pair .str (.int .i64)))) p0 .no, .undef, .undef, .int .i64 p1, .int .i64 p2, .undef, .undef, .undef, .undef, .undef, .undef, .undef, .undef, .undef, .undef, .undef, .undef, .undef, .undef, .undef, .undef, .undef, .undef, .undef, .undef, .undef, .undef, .undef, .undef, .undef, .undef, .undef, .undef, .undef, .undef, .undef, .undef, .undef, .undef, .undef, .undef, .undef, .undef, .undef, .undef, .undef, .undef, .undef, .undef, .undef, .undef, .undef, .undef, .undef, .undef, .undef, .undef, .undef, .undef, .undef, .undef, .undef, .undef, .undef, .undef, .undef, .undef, .undef, .undef, .undef, .undef, .undef, .undef, .undef, .undef, .undef, .undef, .undef, .undef, .undef, .undef, .undef, .undef, .undef, .undef, .undef], [[], [], [], [], [], [], [], [], [], [], [], [], [], [], [], [], [], [], [], [], [], [], [], [], [], [], [], [], [], [], [], [], [], [], [], [], [], [], [], [], [], [], [], [], [], [], [], [], [], [], [], [], [], [], [], [], [], [], [], [], [], [], [], [], [], [], [], [], [], [], [], [], [], [], [], [], [], [], [], [], [], [], [], [], [], []]⟩ K = L20_1 k (fun x => κ ((.int .i64 x, []) : Res)) p0 p1 p2 (fun v => K (.exit 2) ⟨86, [.list (.pair .str (.list (.pair .str (.int .i64)))) p0 .no, .undef, .undef, .int .i64 p1, .int .i64 v, .undef, .undef, .undef, .undef, .undef, .undef, .undef, .undef, .undef, .undef, .undef, .undef, .undef, .undef, .undef, .undef, .undef, .undef, .undef, .undef, .undef, .undef, .undef, .undef, .undef, .undef, .undef, .undef, .undef, .undef, .undef, .undef, .undef, .undef, .undef, .undef, .undef, .undef, .undef, .undef, .undef, .undef, .undef, .undef, .undef, .undef, .undef, .undef, .undef, .undef, .undef, .undef, .undef, .undef, .undef, .undef, .undef, .undef, .undef, .undef, .undef, .undef, .undef, .undef, .undef, .undef, .undef, .undef, .undef, .undef, .undef, .undef, .undef, .undef, .undef, .undef, .undef, .undef, .undef, .undef, .undef], [[], [], [], [], [], [], [], [], [], [], [], [], [], [], [], [], [], [], [], [], [], [], [], [], [], [], [], [], [], [], [], [], [], [], [], [], [], [], [], [], [], [], [], [], [], [], [], [], [], [], [], [], [], [], [], [], [], [], [], [], [], [], [], [], [], [], [], [], [], [], [], [], [], [], [], [], [], [], [], [], [], [], [], [], [], []]⟩) := by
  intro k κ
  induction k with
  | zero => intro p0 p1 p2 K; rfl
  | succ k ih =>
    intro p0 p1 p2 K
    rw [ev_loop, ← F17_d k (F17_ev k), ← L20_1_d k κ ih, ← L20_2_d k κ (L20_2_ev k κ)]
    kernel_rfl
def L20_0 : Nat → (Int → Option Res) → (List (ByteArray × (List (ByteArray × Int)))) → Int → (Int → Option Res) → Option Res
  | 0, _, _, _, _ => none
  | k + 1, κ, p0, p1, K =>
  if decide (p1 < (p0.length : Int)) = true then
   (if (decide ((0 : Int) ≤ p1) && decide (p1 < (p0.length : Int))) = true then
    (F17 k ((p0.getD p1.toNat ((⟨#[]⟩ : ByteArray), ([] : List (ByteArray × Int)))).1) fun x1 =>
    if (!x1) = true then
     (κ (1 : Int))
    else
     (L20_1 k κ p0 p1 (0 : Int) fun v4 =>
     L20_3 k κ p0 p1 (0 : Int) fun v5 =>
     L20_0 k κ p0 (IntKind.wrap .i64 (p1 + (1 : Int))) K))
   else
    (none))
  else
   (K p1)
def L20_0_s : List SC := [.one (.list (.pair .str (.list (.pair .str (.int .i64)))) .no), .one .undef, .one .undef, .one (.int .i64), .one .undef, .one .undef, .one .undef, .one .undef, .one .undef, .one .undef, .one .undef, .one .undef, .one .undef, .one .undef, .one .undef, .one .undef, .one .undef, .one .undef, .one .undef, .one .undef, .one .undef, .one .undef, .one .undef, .one .undef, .one .undef, .one .undef, .one .undef, .one .undef, .one .undef, .one .undef, .one .undef, .one .undef, .one .undef, .one .undef, .one .undef, .one .undef, .one .undef, .one .undef, .one .undef, .one .undef, .one .undef, .one .undef, .one .undef, .one .undef, .one .undef, .one .undef, .one .undef, .one .undef, .one .undef, .one .undef, .one .undef, .one .undef, .one .undef, .one .undef, .one .undef, .one .undef, .one .undef, .one .undef, .one .undef, .one .undef, .one .undef, .one .undef, .one .undef, .one .undef, .one .undef, .one .undef, .one .undef, .one .undef, .one .undef, .one .undef, .one .undef, .one .undef, .one .undef, .one .undef, .one .undef, .one .undef, .one .undef, .one .undef, .one .undef, .one .undef, .one .undef, .one .undef, .one .undef, .one .undef, .one .undef, .one .undef]
def L20_0_b : List (List SC) := [[], [], [], [], [], [], [], [], [], [], [], [], [], [], [], [], [], [], [], [], [], [], [], [], [], [], [], [], [], [], [], [], [], [], [], [], [], [], [], [], [], [], [], [], [], [], [], [], [], [], [], [], [], [], [], [], [], [], [], [], [], [], [], [], [], [], [], [], [], [], [], [], [], [], [], [], [], [], [], [], [], [], [], [], [], []]
def L20_0_m (k : Nat) (κ : Res → Option Res) (lf : LoopF) : LoopF := fun p σ K => if pathEq p [true, false, true, false] = true then (if okSt 86 L20_0_s L20_0_b σ = true then L20_0 k (fun x => κ ((.int .i64 x, []) : Res)) (listOf (.pair .str (.list (.pair .str (.int .i64)))) (nth σ.slots 0)) (intOf (nth σ.slots 3)) (fun v => K (.exit 0) ⟨86, [.list (.pair .str (.list (.pair .str (.int .i64)))) (listOf (.pair .str (.list (.pair .str (.int .i64)))) (nth σ.slots 0)) .no, .undef, .undef, .int .i64 v, .undef, .undef, .undef, .undef, .undef, .undef, .undef, .undef, .undef, .undef, .undef, .undef, .undef, .undef, .undef, .undef, .undef, .undef, .undef, .undef, .undef, .undef, .undef, .undef, .undef, .undef, .undef, .undef, .undef, .undef, .undef, .undef, .undef, .undef, .undef, .undef, .undef, .undef, .undef, .undef, .undef, .undef, .undef, .undef, .undef, .undef, .undef, .undef, .undef, .undef, .undef, .undef, .undef, .undef, .undef, .undef, .undef, .undef, .undef, .undef, .undef, .undef, .undef, .undef, .undef, .undef, .undef, .undef, .undef, .undef, .undef, .undef, .undef, .undef, .undef, .undef, .undef, .undef, .undef, .undef, .undef, .undef], [[], [], [], [], [], [], [], [], [], [], [], [], [], [], [], [], [], [], [], [], [], [], [], [], [], [], [], [], [], [], [], [], [], [], [], [], [], [], [], [], [], [], [], [], [], [], [], [], [], [], [], [], [], [], [], [], [], [], [], [], [], [], [], [], [], [], [], [], [], [], [], [], [], [], [], [], [], [], [], [], [], [], [], [], [], []]⟩) else lf p σ K) else lf p σ K
theorem L20_0_d (k : Nat) (κ : Res → Option Res) (h : ∀ (p0 : (List (ByteArray × (List (ByteArray × Int))))) (p1 : Int) (K : Cont), (ev Try.prog cfg k).loop 20 0 κ [true, false, true, false] ⟨86, [.list (.pair .str (.list (.pair .str (.int .i64)))) p0 .no, .undef, .undef, .int .i64 p1, .undef, .undef, .undef, .undef, .undef, .undef, .undef, .undef, .undef, .undef, .undef, .undef, .undef, .undef, .undef, .undef, .undef, .undef, .undef, .undef, .undef, .undef, .undef, .undef, .undef, .undef, .undef, .undef, .undef, .undef, .undef, .undef, .undef, .undef, .undef, .undef, .undef, .undef, .undef, .undef, .undef, .undef, .undef, .undef, .undef, .undef, .undef, .undef, .undef, .undef, .undef, .undef, .undef, .undef, .undef, .undef, .undef, .undef, .undef, .undef, .undef, .undef, .undef, .undef, .undef, .undef, .undef, .undef, .undef, .undef, .undef, .undef, .undef, .undef, .undef, .undef, .undef, .undef, .undef, .undef, .undef, .undef], [[], [], [], [], [], [], [], [], [], [], [], [], [], [], [], [], [], [], [], [], [], [], [], [], [], [], [], [], [], [], [], [], [], [], [], [], [], [], [], [], [], [], [], [], [], [], [], [], [], [], [], [], [], [], [], [], [], [], [], [], [], [], [], [], [], [], [], [], [], [], [], [], [], [], [], [], [], [], [], [], [], [], [], [], [], []]⟩ K = L20_0 k (fun x => κ ((.int .i64 x, []) : Res)) p0 p1 (fun v => K (.exit 0) ⟨86, [.list (.pair .str (.list (.pair .str (.int .i64)))) p0 .no, .undef, .undef, .int .i64 v, .undef, .undef, .undef, .undef, .undef, .undef, .undef, .undef, .undef, .undef, .undef, .undef, .undef, .undef, .undef, .undef, .undef, .undef, .undef, .undef, .undef, .undef, .undef, .undef, .undef, .undef, .undef, .undef, .undef, .undef, .undef, .undef, .undef, .undef, .undef, .undef, .undef, .undef, .undef, .undef, .undef, .undef, .undef, .undef, .undef, .undef, .undef, .undef, .undef, .undef, .undef, .undef, .undef, .undef, .undef, .undef, .undef, .undef, .undef, .undef, .undef, .undef, .undef, .undef, .undef, .undef, .undef, .undef, .undef, .undef, .undef, .undef, .undef, .undef, .undef, .undef, .undef, .undef, .undef, .undef, .undef, .undef], [[], [], [], [], [], [], [], [], [], [], [], [], [], [], [], [], [], [], [], [], [], [], [], [], [], [], [], [], [], [], [], [], [], [], [], [], [], [], [], [], [], [], [], [], [], [], [], [], [], [], [], [], [], [], [], [], [], [], [], [], [], [], [], [], [], [], [], [], [], [], [], [], [], [], [], [], [], [], [], [], [], [], [], [], [], []]⟩)) : L20_0_m k κ ((ev Try.prog cfg k).loop 20 0 κ) = (ev Try.prog cfg k).loop 20 0 κ := by
  funext p σ K
  unfold L20_0_m
  split
  · rename_i hp
    split
    · rename_i hs
      have e : mkSt 86 L20_0_s L20_0_b σ = ⟨86, [.list (.pair .str (.list (.pair .str (.int .i64)))) (listOf (.pair .str (.list (.pair .str (.int .i64)))) (nth σ.slots 0)) .no, .undef, .undef, .int .i64 (intOf (nth σ.slots 3)), .undef, .undef, .undef, .undef, .undef, .undef, .undef, .undef, .undef, .undef, .undef, .undef, .undef, .undef, .undef, .undef, .undef, .undef, .undef, .undef, .undef, .undef, .undef, .undef, .undef, .undef, .undef, .undef, .undef, .undef, .undef, .undef, .undef, .undef, .undef, .undef, .undef, .undef, .undef, .undef, .undef, .undef, .undef, .undef, .undef, .undef, .undef, .undef, .undef, .undef, .undef, .undef, .undef, .undef, .undef, .undef, .undef, .undef, .undef, .undef, .undef, .undef, .undef, .undef, .undef, .undef, .undef, .undef, .undef, .undef, .undef, .undef, .undef, .undef, .undef, .undef, .undef, .undef, .undef, .undef, .undef, .undef], [[], [], [], [], [], [], [], [], [], [], [], [], [], [], [], [], [], [], [], [], [], [], [], [], [], [], [], [], [], [], [], [], [], [], [], [], [], [], [], [], [], [], [], [], [], [], [], [], [], [], [], [], [], [], [], [], [], [], [], [], [], [], [], [], [], [], [], [], [], [], [], [], [], [], [], [], [], [], [], [], [], [], [], [], [], []]⟩ := by kernel_rfl
      rw [pathEq_eq hp]
      exact (h (listOf (.pair .str (.list (.pair .str (.int .i64)))) (nth σ.slots 0)) (intOf (nth σ.slots 3)) K).symm.trans (congrArg (fun s => (ev Try.prog cfg k).loop 20 0 κ [true, false, true, false] s K) (e.symm.trans (okSt_eq hs).symm))
    · rfl
  · rfl
theorem L20_0_ev : ∀ (k : Nat) (κ : Res → Option Res) (p0 : (List (ByteArray × (List (ByteArray × Int))))) (p1 : Int) (K : Cont), (ev Try.prog cfg k).loop 20 0 κ [true, false, true, false] ⟨86, [.list (.pair .str (.list (.pair .str (.int .i64)))) p0 .no, .undef, .undef, .int .i64 p1, .undef, .undef, .undef, .undef, .undef, .undef, .undef, .undef, .undef, .undef, .undef, .undef, .undef, .undef, .undef, .undef, .undef, .undef, .undef, .undef, .undef, .undef, .undef, .undef, .undef, .undef, .undef, .undef, .undef, .undef, .undef, .undef, .undef, .undef, .undef, .undef, .undef, .undef, .undef, .undef, .undef, .undef, .undef, .undef, .undef, .undef, .undef, .undef, .undef, .undef, .undef, .undef, .undef, .undef, .undef, .undef, .undef, .undef, .undef, .undef, .undef, .undef, .undef, .undef, .undef, .undef, .undef, .undef, .undef, .undef, .undef, .undef, .undef, .undef, .undef, .undef, .undef, .undef, .undef, .undef, .undef, .undef], [[], [], [], [], [], [], [], [], [], [], [], [], [], [], [], [], [], [], [], [], [], [], [], [], [], [], [], [], [], [], [], [], [], [], [], [], [], [], [], [], [], [], [], [], [], [], [], [], [], [], [], [], [], [], [], [], [], [], [], [], [], [], [], [], [], [], [], [], [], [], [], [], [], [], [], [], [], [], [], [], [], [], [], [], [], []]⟩ K = L20_0 k (fun x => κ ((.int .i64 x, []) : Res)) p0 p1 (fun v => K (.exit 0) ⟨86, [.list (.pair .str (.list (.pair .str (.int .i64)))) p0 .no, .undef, .undef, .int .i64 v, .undef, .undef, .undef, .undef, .undef, .undef, .undef, .undef, .undef, .undef, .undef, .undef, .undef, .undef, .undef, .undef, .undef, .undef, .undef, .undef, .undef, .undef, .undef, .undef, .undef, .undef, .undef, .undef, .undef, .undef, .undef, .undef, .undef, .undef, .undef, .undef, .undef, .undef, .undef, .undef, .undef, .undef, .undef, .undef, .undef, .undef, .undef, .undef, .undef, .undef, .undef, .undef, .undef, .undef, .undef, .undef, .undef, .undef, .undef, .undef, .undef, .undef, .undef, .undef, .undef, .undef, .undef, .undef, .undef, .undef, .undef, .undef, .undef, .undef, .undef, .undef, .undef, .undef, .undef, .undef, .undef, .undef], [[], [], [], [], [], [], [], [], [], [], [], [], [], [], [], [], [], [], [], [], [], [], [], [], [], [], [], [], [], [], [], [], [], [], [], [], [], [], [], [], [], [], [], [], [], [], [], [], [], [], [], [], [], [], [], [], [], [], [], [], [], [], [], [], [], [], [], [], [], [], [], [], [], [], [], [], [], [], [], [], [], [], [], [], [], []]⟩) := by
  intro k κ
  induction k with
  | zero => intro p0 p1 K; rfl
  | succ k ih =>
    intro p0 p1 K
    rw [ev_loop, ← F17_d k (F17_ev k), ← L20_0_d k κ ih, ← L20_1_d k κ (L20_1_ev k κ), ← L20_3_d k κ (L20_3_ev k κ)]
    kernel_rfl
/-- lamplighter/lamplighterlaw03.wrong -/
def F20 : Nat → (List (ByteArray × (List (ByteArray × Int)))) → (Int → Option Res) → Option Res
  | 0, _, _ => none
  | k + 1, a0, κ =>
  L20_0 k κ a0 (0 : Int) fun v6 =>
  κ (0 : Int)
def F20_s : List SC := [.one (.list (.pair .str (.list (.pair .str (.int .i64)))) .no)]
def F20_b : List (List SC) := []
def F20_m (k : Nat) (cf : CallF) : CallF := fun f args lent κ => if Nat.beq f 20 = true then (if (okC F20_s args && okB F20_b lent) = true then F20 k (listOf (.pair .str (.list (.pair .str (.int .i64)))) (nth args 0)) (fun x => κ ((.int .i64 x, []) : Res)) else cf f args lent κ) else cf f args lent κ
theorem F20_d (k : Nat) (h : ∀ (a0 : (List (ByteArray × (List (ByteArray × Int))))) (κ : Res → Option Res), (ev Try.prog cfg k).call 20 [.list (.pair .str (.list (.pair .str (.int .i64)))) a0 .no] [] κ = F20 k a0 (fun x => κ ((.int .i64 x, []) : Res))) : F20_m k (ev Try.prog cfg k).call = (ev Try.prog cfg k).call := by
  funext f args lent κ
  unfold F20_m
  split
  · rename_i hp
    split
    · rename_i hs
      rw [Bool.and_eq_true] at hs
      have e : mkC F20_s 0 args = [.list (.pair .str (.list (.pair .str (.int .i64)))) (listOf (.pair .str (.list (.pair .str (.int .i64)))) (nth args 0)) .no] := by kernel_rfl
      have e' : mkB F20_b 0 lent = [] := by kernel_rfl
      obtain rfl := Nat.eq_of_beq_eq_true hp
      exact (h (listOf (.pair .str (.list (.pair .str (.int .i64)))) (nth args 0)) κ).symm.trans (cong2 (fun a l => (ev Try.prog cfg k).call 20 a l κ) (e.symm.trans (okC_eq hs.1).symm) (e'.symm.trans (okB_eq hs.2).symm))
    · rfl
  · rfl
theorem F20_ev : ∀ (k : Nat) (a0 : (List (ByteArray × (List (ByteArray × Int))))) (κ : Res → Option Res), (ev Try.prog cfg k).call 20 [.list (.pair .str (.list (.pair .str (.int .i64)))) a0 .no] [] κ = F20 k a0 (fun x => κ ((.int .i64 x, []) : Res)) := by
  intro k
  induction k with
  | zero => intros; rfl
  | succ k ih =>
    intro a0 κ
    refine (ev_call' Try.prog cfg k 20 0 _ _ κ (by rfl)).trans ?_
    rw [← F17_d k (F17_ev k), ← L20_0_d k κ (L20_0_ev k κ)]
    kernel_rfl
/-- lamplighter/lamplighterref03.Types -/
def F78 : Nat →  ((List (ByteArray × (List (ByteArray × Int)))) → Option Res) → Option Res
  | 0, _ => none
  | k + 1, κ =>
  κ ([((⟨#[65]⟩ : ByteArray), ([((⟨#[120]⟩ : ByteArray), (1 : Int)), ((⟨#[115]⟩ : ByteArray), (2 : Int))] : List (ByteArray × Int))), ((⟨#[66]⟩ : ByteArray), ([((⟨#[120]⟩ : ByteArray), (1 : Int)), ((⟨#[115]⟩ : ByteArray), (2 : Int))] : List (ByteArray × Int))), ((⟨#[67]⟩ : ByteArray), ([((⟨#[115]⟩ : ByteArray), (2 : Int)), ((⟨#[120]⟩ : ByteArray), (1 : Int)), ((⟨#[98]⟩ : ByteArray), (3 : Int))] : List (ByteArray × Int)))] : List (ByteArray × (List (ByteArray × Int))))
def F78_s : List SC := []
def F78_b : List (List SC) := []
def F78_m (k : Nat) (cf : CallF) : CallF := fun f args lent κ => if Nat.beq f 78 = true then (if (okC F78_s args && okB F78_b lent) = true then F78 k  (fun x => κ ((.list (.pair .str (.list (.pair .str (.int .i64)))) x (.own false false), []) : Res)) else cf f args lent κ) else cf f args lent κ
theorem F78_d (k : Nat) (h : ∀  (κ : Res → Option Res), (ev Try.prog cfg k).call 78 [] [] κ = F78 k  (fun x => κ ((.list (.pair .str (.list (.pair .str (.int .i64)))) x (.own false false), []) : Res))) : F78_m k (ev Try.prog cfg k).call = (ev Try.prog cfg k).call := by
  funext f args lent κ
  unfold F78_m
  split
  · rename_i hp
    split
    · rename_i hs
      rw [Bool.and_eq_true] at hs
      have e : mkC F78_s 0 args = [] := by kernel_rfl
      have e' : mkB F78_b 0 lent = [] := by kernel_rfl
      obtain rfl := Nat.eq_of_beq_eq_true hp
      exact (h  κ).symm.trans (cong2 (fun a l => (ev Try.prog cfg k).call 78 a l κ) (e.symm.trans (okC_eq hs.1).symm) (e'.symm.trans (okB_eq hs.2).symm))
    · rfl
  · rfl
theorem F78_ev : ∀ (k : Nat)  (κ : Res → Option Res), (ev Try.prog cfg k).call 78 [] [] κ = F78 k  (fun x => κ ((.list (.pair .str (.list (.pair .str (.int .i64)))) x (.own false false), []) : Res)) := by
  intro k
  induction k with
  | zero => intros; rfl
  | succ k ih =>
    intro  κ
    refine (ev_call' Try.prog cfg k 78 0 _ _ κ (by rfl)).trans ?_
    skip
    kernel_rfl
/-- (*lamplighter/schema.Schema).Find -/
def F23v1 : Nat → ByteArray → ((ByteArray × (List (ByteArray × Int))) × Bool → Option Res) → Option Res
  | 0, _, _ => none
  | k + 1, a1, κ =>
  κ (((⟨#[]⟩ : ByteArray), ([] : List (ByteArray × Int))), false)
def F23v1_s : List SC := [.one .nilp, .one .str]
def F23v1_b : List (List SC) := []
def F23v1_m (k : Nat) (cf : CallF) : CallF := fun f args lent κ => if Nat.beq f 23 = true then (if (okC F23v1_s args && okB F23v1_b lent) = true then F23v1 k (stringOf (nth args 1)) (fun x => κ ((.tup [.agg [.str x.1.1, .list (.pair .str (.int .i64)) x.1.2 .no], .bool x.2], []) : Res)) else cf f args lent κ) else cf f args lent κ
theorem F23v1_d (k : Nat) (h : ∀ (a1 : ByteArray) (κ : Res → Option Res), (ev Try.prog cfg k).call 23 [.nilp, .str a1] [] κ = F23v1 k a1 (fun x => κ ((.tup [.agg [.str x.1.1, .list (.pair .str (.int .i64)) x.1.2 .no], .bool x.2], []) : Res))) : F23v1_m k (ev Try.prog cfg k).call = (ev Try.prog cfg k).call := by
  funext f args lent κ
  unfold F23v1_m
  split
  · rename_i hp
    split
    · rename_i hs
      rw [Bool.and_eq_true] at hs
      have e : mkC F23v1_s 0 args = [.nilp, .str (stringOf (nth args 1))] := by kernel_rfl
      have e' : mkB F23v1_b 0 lent = [] := by kernel_rfl
      obtain rfl := Nat.eq_of_beq_eq_true hp
      exact (h (stringOf (nth args 1)) κ).symm.trans (cong2 (fun a l => (ev Try.prog cfg k).call 23 a l κ) (e.symm.trans (okC_eq hs.1).symm) (e'.symm.trans (okB_eq hs.2).symm))
    · rfl
  · rfl
theorem F23v1_ev : ∀ (k : Nat) (a1 : ByteArray) (κ : Res → Option Res), (ev Try.prog cfg k).call 23 [.nilp, .str a1] [] κ = F23v1 k a1 (fun x => κ ((.tup [.agg [.str x.1.1, .list (.pair .str (.int .i64)) x.1.2 .no], .bool x.2], []) : Res)) := by
  intro k
  induction k with
  | zero => intros; rfl
  | succ k ih =>
    intro a1 κ
    refine (ev_call' Try.prog cfg k 23 0 _ _ κ (by rfl)).trans ?_
    skip
    kernel_rfl
def L24_0 : Nat → (Int × Int → Option Res) → ByteArray → (List (ByteArray × Int)) → Int → Int → (Int → Option Res) → Option Res
  | 0, _, _, _, _, _, _ => none
  | k + 1, κ, p0, p1, p2, p3, K =>
  if decide (p3 < p2) = true then
   (if (decide ((0 : Int) ≤ p3) && decide (p3 < (p1.length : Int))) = true then
    (if (((p1.getD p3.toNat ((⟨#[]⟩ : ByteArray), (0 : Int))).1).toList == p0.toList) = true then
     (κ (p3, (p1.getD p3.toNat ((⟨#[]⟩ : ByteArray), (0 : Int))).2))
    else
     (L24_0 k κ p0 p1 p2 (IntKind.wrap .i64 (p3 + (1 : Int))) K))
   else
    (none))
  else
   (K p3)
def L24_0_s : List SC := [.one .undef, .one .undef, .one .str, .one .undef, .one .undef, .one .undef, .one .undef, .one .undef, .one .undef, .one .undef, .one .undef, .one .undef, .one .undef, .one .undef, .one .undef, .one .undef, .one .undef, .one .undef, .one .undef, .one (.list (.pair .str (.int .i64)) .no), .one (.int .i64), .one (.int .i64), .one .undef, .one .undef, .one .undef, .one .undef, .one .undef, .one .undef, .one .undef, .one .undef, .one .undef, .one .undef, .one .undef, .one .undef]
def L24_0_b : List (List SC) := [[], [], [], [], [], [], [], [], [], [], [], [], [], [], [], [], [], [], [], [], [], [], [], [], [], [], [], [], [], [], [], [], [], []]
def L24_0_m (k : Nat) (κ : Res → Option Res) (lf : LoopF) : LoopF := fun p σ K => if pathEq p [true, true, false, true, false] = true then (if okSt 34 L24_0_s L24_0_b σ = true then L24_0 k (fun x => κ ((.tup [.int .i64 x.1, .int .i64 x.2], []) : Res)) (stringOf (nth σ.slots 2)) (listOf (.pair .str (.int .i64)) (nth σ.slots 19)) (intOf (nth σ.slots 20)) (intOf (nth σ.slots 21)) (fun v => K (.exit 0) ⟨34, [.undef, .undef, .str (stringOf (nth σ.slots 2)), .undef, .undef, .undef, .undef, .undef, .undef, .undef, .undef, .undef, .undef, .undef, .undef, .undef, .undef, .undef, .undef, .list (.pair .str (.int .i64)) (listOf (.pair .str (.int .i64)) (nth σ.slots 19)) .no, .int .i64 (intOf (nth σ.slots 20)), .int .i64 v, .undef, .undef, .undef, .undef, .undef, .undef, .undef, .undef, .undef, .undef, .undef, .undef], [[], [], [], [], [], [], [], [], [], [], [], [], [], [], [], [], [], [], [], [], [], [], [], [], [], [], [], [], [], [], [], [], [], []]⟩) else lf p σ K) else lf p σ K
theorem L24_0_d (k : Nat) (κ : Res → Option Res) (h : ∀ (p0 : ByteArray) (p1 : (List (ByteArray × Int))) (p2 : Int) (p3 : Int) (K : Cont), (ev Try.prog cfg k).loop 24 0 κ [true, true, false, true, false] ⟨34, [.undef, .undef, .str p0, .undef, .undef, .undef, .undef, .undef, .undef, .undef, .undef, .undef, .undef, .undef, .undef, .undef, .undef, .undef, .undef, .list (.pair .str (.int .i64)) p1 .no, .int .i64 p2, .int .i64 p3, .undef, .undef, .undef, .undef, .undef, .undef, .undef, .undef, .undef, .undef, .undef, .undef], [[], [], [], [], [], [], [], [], [], [], [], [], [], [], [], [], [], [], [], [], [], [], [], [], [], [], [], [], [], [], [], [], [], []]⟩ K = L24_0 k (fun x => κ ((.tup [.int .i64 x.1, .int .i64 x.2], []) : Res)) p0 p1 p2 p3 (fun v => K (.exit 0) ⟨34, [.undef, .undef, .str p0, .undef, .undef, .undef, .undef, .undef, .undef, .undef, .undef, .undef, .undef, .undef, .undef, .undef, .undef, .undef, .undef, .list (.pair .str (.int .i64)) p1 .no, .int .i64 p2, .int .i64 v, .undef, .undef, .undef, .undef, .undef, .undef, .undef, .undef, .undef, .undef, .undef, .undef], [[], [], [], [], [], [], [], [], [], [], [], [], [], [], [], [], [], [], [], [], [], [], [], [], [], [], [], [], [], [], [], [], [], []]⟩)) : L24_0_m k κ ((ev Try.prog cfg k).loop 24 0 κ) = (ev Try.prog cfg k).loop 24 0 κ := by
  funext p σ K
  unfold L24_0_m
  split
  · rename_i hp
    split
    · rename_i hs
      have e : mkSt 34 L24_0_s L24_0_b σ = ⟨34, [.undef, .undef, .str (stringOf (nth σ.slots 2)), .undef, .undef, .undef, .undef, .undef, .undef, .undef, .undef, .undef, .undef, .undef, .undef, .undef, .undef, .undef, .undef, .list (.pair .str (.int .i64)) (listOf (.pair .str (.int .i64)) (nth σ.slots 19)) .no, .int .i64 (intOf (nth σ.slots 20)), .int .i64 (intOf (nth σ.slots 21)), .undef, .undef, .undef, .undef, .undef, .undef, .undef, .undef, .undef, .undef, .undef, .undef], [[], [], [], [], [], [], [], [], [], [], [], [], [], [], [], [], [], [], [], [], [], [], [], [], [], [], [], [], [], [], [], [], [], []]⟩ := by kernel_rfl
      rw [pathEq_eq hp]
      exact (h (stringOf (nth σ.slots 2)) (listOf (.pair .str (.int .i64)) (nth σ.slots 19)) (intOf (nth σ.slots 20)) (intOf (nth σ.slots 21)) K).symm.trans (congrArg (fun s => (ev Try.prog cfg k).loop 24 0 κ [true, true, false, true, false] s K) (e.symm.trans (okSt_eq hs).symm))
    · rfl
  · rfl
theorem L24_0_ev : ∀ (k : Nat) (κ : Res → Option Res) (p0 : ByteArray) (p1 : (List (ByteArray × Int))) (p2 : Int) (p3 : Int) (K : Cont), (ev Try.prog cfg k).loop 24 0 κ [true, true, false, true, false] ⟨34, [.undef, .undef, .str p0, .undef, .undef, .undef, .undef, .undef, .undef, .undef, .undef, .undef, .undef, .undef, .undef, .undef, .undef, .undef, .undef, .list (.pair .str (.int .i64)) p1 .no, .int .i64 p2, .int .i64 p3, .undef, .undef, .undef, .undef, .undef, .undef, .undef, .undef, .undef, .undef, .undef, .undef], [[], [], [], [], [], [], [], [], [], [], [], [], [], [], [], [], [], [], [], [], [], [], [], [], [], [], [], [], [], [], [], [], [], []]⟩ K = L24_0 k (fun x => κ ((.tup [.int .i64 x.1, .int .i64 x.2], []) : Res)) p0 p1 p2 p3 (fun v => K (.exit 0) ⟨34, [.undef, .undef, .str p0, .undef, .undef, .undef, .undef, .undef, .undef, .undef, .undef, .undef, .undef, .undef, .undef, .undef, .undef, .undef, .undef, .list (.pair .str (.int .i64)) p1 .no, .int .i64 p2, .int .i64 v, .undef, .undef, .undef, .undef, .undef, .undef, .undef, .undef, .undef, .undef, .undef, .undef], [[], [], [], [], [], [], [], [], [], [], [], [], [], [], [], [], [], [], [], [], [], [], [], [], [], [], [], [], [], [], [], [], [], []]⟩) := by
  intro k κ
  induction k with
  | zero => intro p0 p1 p2 p3 K; rfl
  | succ k ih =>
    intro p0 p1 p2 p3 K
    rw [ev_loop, ← L24_0_d k κ ih]
    kernel_rfl
/-- (*lamplighter/schema.Schema).Field -/
def F24 : Nat → ByteArray → ByteArray → (Int × Int → Option Res) → Option Res
  | 0, _, _, _ => none
  | k + 1, a1, a2, κ =>
  F23v1 k a1 fun x1 =>
  L24_0 k κ a2 x1.1.2 (x1.1.2.length : Int) (0 : Int) fun v2 =>
  κ ((-1 : Int), (0 : Int))
def F24_s : List SC := [.one .nilp, .one .str, .one .str]
def F24_b : List (List SC) := []
def F24_m (k : Nat) (cf : CallF) : CallF := fun f args lent κ => if Nat.beq f 24 = true then (if (okC F24_s args && okB F24_b lent) = true then F24 k (stringOf (nth args 1)) (stringOf (nth args 2)) (fun x => κ ((.tup [.int .i64 x.1, .int .i64 x.2], []) : Res)) else cf f args lent κ) else cf f args lent κ
theorem F24_d (k : Nat) (h : ∀ (a1 : ByteArray) (a2 : ByteArray) (κ : Res → Option Res), (ev Try.prog cfg k).call 24 [.nilp, .str a1, .str a2] [] κ = F24 k a1 a2 (fun x => κ ((.tup [.int .i64 x.1, .int .i64 x.2], []) : Res))) : F24_m k (ev Try.prog cfg k).call = (ev Try.prog cfg k).call := by
  funext f args lent κ
  unfold F24_m
  split
  · rename_i hp
    split
    · rename_i hs
      rw [Bool.and_eq_true] at hs
      have e : mkC F24_s 0 args = [.nilp, .str (stringOf (nth args 1)), .str (stringOf (nth args 2))] := by kernel_rfl
      have e' : mkB F24_b 0 lent = [] := by kernel_rfl
      obtain rfl := Nat.eq_of_beq_eq_true hp
      exact (h (stringOf (nth args 1)) (stringOf (nth args 2)) κ).symm.trans (cong2 (fun a l => (ev Try.prog cfg k).call 24 a l κ) (e.symm.trans (okC_eq hs.1).symm) (e'.symm.trans (okB_eq hs.2).symm))
    · rfl
  · rfl
theorem F24_ev : ∀ (k : Nat) (a1 : ByteArray) (a2 : ByteArray) (κ : Res → Option Res), (ev Try.prog cfg k).call 24 [.nilp, .str a1, .str a2] [] κ = F24 k a1 a2 (fun x => κ ((.tup [.int .i64 x.1, .int .i64 x.2], []) : Res)) := by
  intro k
  induction k with
  | zero => intros; rfl
  | succ k ih =>
    intro a1 a2 κ
    refine (ev_call' Try.prog cfg k 24 0 _ _ κ (by rfl)).trans ?_
    rw [← F23v1_d k (F23v1_ev k), ← L24_0_d k κ (L24_0_ev k κ)]
    kernel_rfl
/-- (*lamplighter/schema.Schema).Len -/
def F22 : Nat →  (Int → Option Res) → Option Res
  | 0, _ => none
  | k + 1, κ =>
  κ (0 : Int)
def F22_s : List SC := [.one .nilp]
def F22_b : List (List SC) := []
def F22_m (k : Nat) (cf : CallF) : CallF := fun f args lent κ => if Nat.beq f 22 = true then (if (okC F22_s args && okB F22_b lent) = true then F22 k  (fun x => κ ((.int .i64 x, []) : Res)) else cf f args lent κ) else cf f args lent κ
theorem F22_d (k : Nat) (h : ∀  (κ : Res → Option Res), (ev Try.prog cfg k).call 22 [.nilp] [] κ = F22 k  (fun x => κ ((.int .i64 x, []) : Res))) : F22_m k (ev Try.prog cfg k).call = (ev Try.prog cfg k).call := by
  funext f args lent κ
  unfold F22_m
  split
  · rename_i hp
    split
    · rename_i hs
      rw [Bool.and_eq_true] at hs
      have e : mkC F22_s 0 args = [.nilp] := by kernel_rfl
      have e' : mkB F22_b 0 lent = [] := by kernel_rfl
      obtain rfl := Nat.eq_of_beq_eq_true hp
      exact (h  κ).symm.trans (cong2 (fun a l => (ev Try.prog cfg k).call 22 a l κ) (e.symm.trans (okC_eq hs.1).symm) (e'.symm.trans (okB_eq hs.2).symm))
    · rfl
  · rfl
theorem F22_ev : ∀ (k : Nat)  (κ : Res → Option Res), (ev Try.prog cfg k).call 22 [.nilp] [] κ = F22 k  (fun x => κ ((.int .i64 x, []) : Res)) := by
  intro k
  induction k with
  | zero => intros; rfl
  | succ k ih =>
    intro  κ
    refine (ev_call' Try.prog cfg k 22 0 _ _ κ (by rfl)).trans ?_
    skip
    kernel_rfl
def L24v1_0 : Nat → (Int × Int × (List (ByteArray × (List (ByteArray × Int)))) → Option Res) → ByteArray → (List (ByteArray × Int)) → Int → Int → (List (ByteArray × (List (ByteArray × Int)))) → (Int → Option Res) → Option Res
  | 0, _, _, _, _, _, _, _ => none
  | k + 1, κ, p0, p1, p2, p3, p4, K =>
  if decide (p3 < p2) = true then
   (if (decide ((0 : Int) ≤ p3) && decide (p3 < (p1.length : Int))) = true then
    (if (((p1.getD p3.toNat ((⟨#[]⟩ : ByteArray), (0 : Int))).1).toList == p0.toList) = true then
     (κ (p3, ((p1.getD p3.toNat ((⟨#[]⟩ : ByteArray), (0 : Int))).2, p4)))
    else
     (L24v1_0 k κ p0 p1 p2 (IntKind.wrap .i64 (p3 + (1 : Int))) p4 K))
   else
    (none))
  else
   (K p3)
def L24v1_0_s : List SC := [.one .undef, .one .undef, .one .str, .one .undef, .one .undef, .one .undef, .one .undef, .one .undef, .one .undef, .one .undef, .one .undef, .one .undef, .one .undef, .one .undef, .one .undef, .one .undef, .one .undef, .one .undef, .one .undef, .one (.list (.pair .str (.int .i64)) .no), .one (.int .i64), .one (.int .i64), .one .undef, .one .undef, .one .undef, .one .undef, .one .undef, .one .undef, .one .undef, .one .undef, .one .undef, .one .undef, .one .undef, .one .undef]
def L24v1_0_b : List (List SC) := [[], [], [], [], [], [], [], [], [], [], [], [], [], [], [], [], [], [], [], [], [], [], [], [], [], [], [], [], [], [], [], [], [], [], [.one (.list (.pair .str (.list (.pair .str (.int .i64)))) (.own false false))]]
def L24v1_0_m (k : Nat) (κ : Res → Option Res) (lf : LoopF) : LoopF := fun p σ K => if pathEq p [true, true, false, true, false] = true then (if okSt 34 L24v1_0_s L24v1_0_b σ = true then L24v1_0 k (fun x => κ ((.tup [.int .i64 x.1, .int .i64 x.2.1], [[.list (.pair .str (.list (.pair .str (.int .i64)))) x.2.2 (.own false false)]]) : Res)) (stringOf (nth σ.slots 2)) (listOf (.pair .str (.int .i64)) (nth σ.slots 19)) (intOf (nth σ.slots 20)) (intOf (nth σ.slots 21)) (listOf (.pair .str (.list (.pair .str (.int .i64)))) (nth (nthB σ.boxes 34) 0)) (fun v => K (.exit 0) ⟨34, [.undef, .undef, .str (stringOf (nth σ.slots 2)), .undef, .undef, .undef, .undef, .undef, .undef, .undef, .undef, .undef, .undef, .undef, .undef, .undef, .undef, .undef, .undef, .list (.pair .str (.int .i64)) (listOf (.pair .str (.int .i64)) (nth σ.slots 19)) .no, .int .i64 (intOf (nth σ.slots 20)), .int .i64 v, .undef, .undef, .undef, .undef, .undef, .undef, .undef, .undef, .undef, .undef, .undef, .undef], [[], [], [], [], [], [], [], [], [], [], [], [], [], [], [], [], [], [], [], [], [], [], [], [], [], [], [], [], [], [], [], [], [], [], [.list (.pair .str (.list (.pair .str (.int .i64)))) (listOf (.pair .str (.list (.pair .str (.int .i64)))) (nth (nthB σ.boxes 34) 0)) (.own false false)]]⟩) else lf p σ K) else lf p σ K
theorem L24v1_0_d (k : Nat) (κ : Res → Option Res) (h : ∀ (p0 : ByteArray) (p1 : (List (ByteArray × Int))) (p2 : Int) (p3 : Int) (p4 : (List (ByteArray × (List (ByteArray × Int))))) (K : Cont), (ev Try.prog cfg k).loop 24 1 κ [true, true, false, true, false] ⟨34, [.undef, .undef, .str p0, .undef, .undef, .undef, .undef, .undef, .undef, .undef, .undef, .undef, .undef, .undef, .undef, .undef, .undef, .undef, .undef, .list (.pair .str (.int .i64)) p1 .no, .int .i64 p2, .int .i64 p3, .undef, .undef, .undef, .undef, .undef, .undef, .undef, .undef, .undef, .undef, .undef, .undef], [[], [], [], [], [], [], [], [], [], [], [], [], [], [], [], [], [], [], [], [], [], [], [], [], [], [], [], [], [], [], [], [], [], [], [.list (.pair .str (.list (.pair .str (.int .i64)))) p4 (.own false false)]]⟩ K = L24v1_0 k (fun x => κ ((.tup [.int .i64 x.1, .int .i64 x.2.1], [[.list (.pair .str (.list (.pair .str (.int .i64)))) x.2.2 (.own false false)]]) : Res)) p0 p1 p2 p3 p4 (fun v => K (.exit 0) ⟨34, [.undef, .undef, .str p0, .undef, .undef, .undef, .undef, .undef, .undef, .undef, .undef, .undef, .undef, .undef, .undef, .undef, .undef, .undef, .undef, .list (.pair .str (.int .i64)) p1 .no, .int .i64 p2, .int .i64 v, .undef, .undef, .undef, .undef, .undef, .undef, .undef, .undef, .undef, .undef, .undef, .undef], [[], [], [], [], [], [], [], [], [], [], [], [], [], [], [], [], [], [], [], [], [], [], [], [], [], [], [], [], [], [], [], [], [], [], [.list (.pair .str (.list (.pair .str (.int .i64)))) p4 (.own false false)]]⟩)) : L24v1_0_m k κ ((ev Try.prog cfg k).loop 24 1 κ) = (ev Try.prog cfg k).loop 24 1 κ := by
  funext p σ K
  unfold L24v1_0_m
  split
  · rename_i hp
    split
    · rename_i hs
      have e : mkSt 34 L24v1_0_s L24v1_0_b σ = ⟨34, [.undef, .undef, .str (stringOf (nth σ.slots 2)), .undef, .undef, .undef, .undef, .undef, .undef, .undef, .undef, .undef, .undef, .undef, .undef, .undef, .undef, .undef, .undef, .list (.pair .str (.int .i64)) (listOf (.pair .str (.int .i64)) (nth σ.slots 19)) .no, .int .i64 (intOf (nth σ.slots 20)), .int .i64 (intOf (nth σ.slots 21)), .undef, .undef, .undef, .undef, .undef, .undef, .undef, .undef, .undef, .undef, .undef, .undef], [[], [], [], [], [], [], [], [], [], [], [], [], [], [], [], [], [], [], [], [], [], [], [], [], [], [], [], [], [], [], [], [], [], [], [.list (.pair .str (.list (.pair .str (.int .i64)))) (listOf (.pair .str (.list (.pair .str (.int .i64)))) (nth (nthB σ.boxes 34) 0)) (.own false false)]]⟩ := by kernel_rfl
      rw [pathEq_eq hp]
      exact (h (stringOf (nth σ.slots 2)) (listOf (.pair .str (.int .i64)) (nth σ.slots 19)) (intOf (nth σ.slots 20)) (intOf (nth σ.slots 21)) (listOf (.pair .str (.list (.pair .str (.int .i64)))) (nth (nthB σ.boxes 34) 0)) K).symm.trans (congrArg (fun s => (ev Try.prog cfg k).loop 24 1 κ [true, true, false, true, false] s K) (e.symm.trans (okSt_eq hs).symm))
    · rfl
  · rfl
theorem L24v1_0_ev : ∀ (k : Nat) (κ : Res → Option Res) (p0 : ByteArray) (p1 : (List (ByteArray × Int))) (p2 : Int) (p3 : Int) (p4 : (List (ByteArray × (List (ByteArray × Int))))) (K : Cont), (ev Try.prog cfg k).loop 24 1 κ [true, true, false, true, false] ⟨34, [.undef, .undef, .str p0, .undef, .undef, .undef, .undef, .undef, .undef, .undef, .undef, .undef, .undef, .undef, .undef, .undef, .undef, .undef, .undef, .list (.pair .str (.int .i64)) p1 .no, .int .i64 p2, .int .i64 p3, .undef, .undef, .undef, .undef, .undef, .undef, .undef, .undef, .undef, .undef, .undef, .undef], [[], [], [], [], [], [], [], [], [], [], [], [], [], [], [], [], [], [], [], [], [], [], [], [], [], [], [], [], [], [], [], [], [], [], [.list (.pair .str (.list (.pair .str (.int .i64)))) p4 (.own false false)]]⟩ K = L24v1_0 k (fun x => κ ((.tup [.int .i64 x.1, .int .i64 x.2.1], [[.list (.pair .str (.list (.pair .str (.int .i64)))) x.2.2 (.own false false)]]) : Res)) p0 p1 p2 p3 p4 (fun v => K (.exit 0) ⟨34, [.undef, .undef, .str p0, .undef, .undef, .undef, .undef, .undef, .undef, .undef, .undef, .undef, .undef, .undef, .undef, .undef, .undef, .undef, .undef, .list (.pair .str (.int .i64)) p1 .no, .int .i64 p2, .int .i64 v, .undef, .undef, .undef, .undef, .undef, .undef, .undef, .undef, .undef, .undef, .undef, .undef], [[], [], [], [], [], [], [], [], [], [], [], [], [], [], [], [], [], [], [], [], [], [], [], [], [], [], [], [], [], [], [], [], [], [], [.list (.pair .str (.list (.pair .str (.int .i64)))) p4 (.own false false)]]⟩) := by
  intro k κ
  induction k with
  | zero => intro p0 p1 p2 p3 p4 K; rfl
  | succ k ih =>
    intro p0 p1 p2 p3 p4 K
    rw [ev_loop, ← L24v1_0_d k κ ih]
    kernel_rfl
/-- (*lamplighter/schema.Schema).Field -/
def F24v1 : Nat → ByteArray → ByteArray → (List (ByteArray × (List (ByteArray × Int)))) → (Int × Int × (List (ByteArray × (List (ByteArray × Int)))) → Option Res) → Option Res
  | 0, _, _, _, _ => none
  | k + 1, a1, a2, b0_0, κ =>
  F23 k a1 b0_0 fun x1 =>
  L24v1_0 k κ a2 x1.1.2 (x1.1.2.length : Int) (0 : Int) x1.2.2 fun v2 =>
  κ ((-1 : Int), ((0 : Int), x1.2.2))
def F24v1_s : List SC := [.one (.ref 0 0), .one .str, .one .str]
def F24v1_b : List (List SC) := [[.one (.list (.pair .str (.list (.pair .str (.int .i64)))) (.own false false))]]
def F24v1_m (k : Nat) (cf : CallF) : CallF := fun f args lent κ => if Nat.beq f 24 = true then (if (okC F24v1_s args && okB F24v1_b lent) = true then F24v1 k (stringOf (nth args 1)) (stringOf (nth args 2)) (listOf (.pair .str (.list (.pair .str (.int .i64)))) (nth (nthB lent 0) 0)) (fun x => κ ((.tup [.int .i64 x.1, .int .i64 x.2.1], [[.list (.pair .str (.list (.pair .str (.int .i64)))) x.2.2 (.own false false)]]) : Res)) else cf f args lent κ) else cf f args lent κ
theorem F24v1_d (k : Nat) (h : ∀ (a1 : ByteArray) (a2 : ByteArray) (b0_0 : (List (ByteArray × (List (ByteArray × Int))))) (κ : Res → Option Res), (ev Try.prog cfg k).call 24 [.ref 0 0, .str a1, .str a2] [[.list (.pair .str (.list (.pair .str (.int .i64)))) b0_0 (.own false false)]] κ = F24v1 k a1 a2 b0_0 (fun x => κ ((.tup [.int .i64 x.1, .int .i64 x.2.1], [[.list (.pair .str (.list (.pair .str (.int .i64)))) x.2.2 (.own false false)]]) : Res))) : F24v1_m k (ev Try.prog cfg k).call = (ev Try.prog cfg k).call := by
  funext f args lent κ
  unfold F24v1_m
  split
  · rename_i hp
    split
    · rename_i hs
      rw [Bool.and_eq_true] at hs
      have e : mkC F24v1_s 0 args = [.ref 0 0, .str (stringOf (nth args 1)), .str (stringOf (nth args 2))] := by kernel_rfl
      have e' : mkB F24v1_b 0 lent = [[.list (.pair .str (.list (.pair .str (.int .i64)))) (listOf (.pair .str (.list (.pair .str (.int .i64)))) (nth (nthB lent 0) 0)) (.own false false)]] := by kernel_rfl
      obtain rfl := Nat.eq_of_beq_eq_true hp
      exact (h (stringOf (nth args 1)) (stringOf (nth args 2)) (listOf (.pair .str (.list (.pair .str (.int .i64)))) (nth (nthB lent 0) 0)) κ).symm.trans (cong2 (fun a l => (ev Try.prog cfg k).call 24 a l κ) (e.symm.trans (okC_eq hs.1).symm) (e'.symm.trans (okB_eq hs.2).symm))
    · rfl
  · rfl
theorem F24v1_ev : ∀ (k : Nat) (a1 : ByteArray) (a2 : ByteArray) (b0_0 : (List (ByteArray × (List (ByteArray × Int))))) (κ : Res → Option Res), (ev Try.prog cfg k).call 24 [.ref 0 0, .str a1, .str a2] [[.list (.pair .str (.list (.pair .str (.int .i64)))) b0_0 (.own false false)]] κ = F24v1 k a1 a2 b0_0 (fun x => κ ((.tup [.int .i64 x.1, .int .i64 x.2.1], [[.list (.pair .str (.list (.pair .str (.int .i64)))) x.2.2 (.own false false)]]) : Res)) := by
  intro k
  induction k with
  | zero => intros; rfl
  | succ k ih =>
    intro a1 a2 b0_0 κ
    refine (ev_call' Try.prog cfg k 24 1 _ _ κ (by rfl)).trans ?_
    rw [← F23_d k (F23_ev k), ← L24v1_0_d k κ (L24v1_0_ev k κ)]
    kernel_rfl
/-- (*lamplighter/schema.Schema).Len -/
def F22v1 : Nat → (List (ByteArray × (List (ByteArray × Int)))) → (Int × (List (ByteArray × (List (ByteArray × Int)))) → Option Res) → Option Res
  | 0, _, _ => none
  | k + 1, b0_0, κ =>
  κ ((b0_0.length : Int), b0_0)
def F22v1_s : List SC := [.one (.ref 0 0)]
def F22v1_b : List (List SC) := [[.one (.list (.pair .str (.list (.pair .str (.int .i64)))) (.own false false))]]
def F22v1_m (k : Nat) (cf : CallF) : CallF := fun f args lent κ => if Nat.beq f 22 = true then (if (okC F22v1_s args && okB F22v1_b lent) = true then F22v1 k (listOf (.pair .str (.list (.pair .str (.int .i64)))) (nth (nthB lent 0) 0)) (fun x => κ ((.int .i64 x.1, [[.list (.pair .str (.list (.pair .str (.int .i64)))) x.2 (.own false false)]]) : Res)) else cf f args lent κ) else cf f args lent κ
theorem F22v1_d (k : Nat) (h : ∀ (b0_0 : (List (ByteArray × (List (ByteArray × Int))))) (κ : Res → Option Res), (ev Try.prog cfg k).call 22 [.ref 0 0] [[.list (.pair .str (.list (.pair .str (.int .i64)))) b0_0 (.own false false)]] κ = F22v1 k b0_0 (fun x => κ ((.int .i64 x.1, [[.list (.pair .str (.list (.pair .str (.int .i64)))) x.2 (.own false false)]]) : Res))) : F22v1_m k (ev Try.prog cfg k).call = (ev Try.prog cfg k).call := by
  funext f args lent κ
  unfold F22v1_m
  split
  · rename_i hp
    split
    · rename_i hs
      rw [Bool.and_eq_true] at hs
      have e : mkC F22v1_s 0 args = [.ref 0 0] := by kernel_rfl
      have e' : mkB F22v1_b 0 lent = [[.list (.pair .str (.list (.pair .str (.int .i64)))) (listOf (.pair .str (.list (.pair .str (.int .i64)))) (nth (nthB lent 0) 0)) (.own false false)]] := by kernel_rfl
      obtain rfl := Nat.eq_of_beq_eq_true hp
      exact (h (listOf (.pair .str (.list (.pair .str (.int .i64)))) (nth (nthB lent 0) 0)) κ).symm.trans (cong2 (fun a l => (ev Try.prog cfg k).call 22 a l κ) (e.symm.trans (okC_eq hs.1).symm) (e'.symm.trans (okB_eq hs.2).symm))
    · rfl
  · rfl
theorem F22v1_ev : ∀ (k : Nat) (b0_0 : (List (ByteArray × (List (ByteArray × Int))))) (κ : Res → Option Res), (ev Try.prog cfg k).call 22 [.ref 0 0] [[.list (.pair .str (.list (.pair .str (.int .i64)))) b0_0 (.own false false)]] κ = F22v1 k b0_0 (fun x => κ ((.int .i64 x.1, [[.list (.pair .str (.list (.pair .str (.int .i64)))) x.2 (.own false false)]]) : Res)) := by
  intro k
  induction k with
  | zero => intros; rfl
  | succ k ih =>
    intro b0_0 κ
    refine (ev_call' Try.prog cfg k 22 1 _ _ κ (by rfl)).trans ?_
    skip
    kernel_rfl
/-- lamplighter/lamplighterlaw03.awake -/
def F15 : Nat →  (Bool → Option Res) → Option Res
  | 0, _ => none
  | k + 1, κ =>
  F78 k  fun x1 =>
  F19 k x1 (fun x2 =>
   F24 k (⟨#[67]⟩ : ByteArray) (⟨#[120]⟩ : ByteArray) fun x3 =>
   if (x2 == (0 : Int)) = true then
    (F22 k  fun x4 =>
    if (x4 == (3 : Int)) = true then
     (if (x3.1 == (1 : Int)) = true then
      (if (x3.2 == (1 : Int)) = true then
       (F16 k (⟨#[116, 114, 117, 101]⟩ : ByteArray) fun x5 =>
       if (!x5) = true then
        (F16 k (⟨#[97, 49]⟩ : ByteArray) fun x6 =>
        κ x6)
       else
        (κ false))
      else
       (κ false))
     else
      (κ false))
    else
     (κ false))
   else
    (κ false)) (fun x7 =>
   F24v1 k (⟨#[67]⟩ : ByteArray) (⟨#[120]⟩ : ByteArray) x7.2 fun x8 =>
   if (x7.1 == (0 : Int)) = true then
    (F22v1 k x8.2.2 fun x9 =>
    if (x9.1 == (3 : Int)) = true then
     (if (x8.1 == (1 : Int)) = true then
      (if (x8.2.1 == (1 : Int)) = true then
       (F16 k (⟨#[116, 114, 117, 101]⟩ : ByteArray) fun x10 =>
       if (!x10) = true then
        (F16 k (⟨#[97, 49]⟩ : ByteArray) fun x11 =>
        κ x11)
       else
        (κ false))
      else
       (κ false))
     else
      (κ false))
    else
     (κ false))
   else
    (κ false))
def F15_s : List SC := []
def F15_b : List (List SC) := []
def F15_m (k : Nat) (cf : CallF) : CallF := fun f args lent κ => if Nat.beq f 15 = true then (if (okC F15_s args && okB F15_b lent) = true then F15 k  (fun x => κ ((.bool x, []) : Res)) else cf f args lent κ) else cf f args lent κ
theorem F15_d (k : Nat) (h : ∀  (κ : Res → Option Res), (ev Try.prog cfg k).call 15 [] [] κ = F15 k  (fun x => κ ((.bool x, []) : Res))) : F15_m k (ev Try.prog cfg k).call = (ev Try.prog cfg k).call := by
  funext f args lent κ
  unfold F15_m
  split
  · rename_i hp
    split
    · rename_i hs
      rw [Bool.and_eq_true] at hs
      have e : mkC F15_s 0 args = [] := by kernel_rfl
      have e' : mkB F15_b 0 lent = [] := by kernel_rfl
      obtain rfl := Nat.eq_of_beq_eq_true hp
      exact (h  κ).symm.trans (cong2 (fun a l => (ev Try.prog cfg k).call 15 a l κ) (e.symm.trans (okC_eq hs.1).symm) (e'.symm.trans (okB_eq hs.2).symm))
    · rfl
  · rfl
theorem F15_ev : ∀ (k : Nat)  (κ : Res → Option Res), (ev Try.prog cfg k).call 15 [] [] κ = F15 k  (fun x => κ ((.bool x, []) : Res)) := by
  intro k
  induction k with
  | zero => intros; rfl
  | succ k ih =>
    intro  κ
    refine (ev_call' Try.prog cfg k 15 0 _ _ κ (by rfl)).trans ?_
    rw [← F78_d k (F78_ev k), ← F19_d k (F19_ev k), ← F24_d k (F24_ev k), ← F22_d k (F22_ev k), ← F16_d k (F16_ev k), ← F24v1_d k (F24v1_ev k), ← F22v1_d k (F22v1_ev k)]
    kernel_rfl
def L21_0 : Nat → ((List ByteArray) → Option Res) → (List ByteArray) → Int → Int → (Unit → Option Res) → Option Res
  | 0, _, _, _, _, _ => none
  | k + 1, κ, p0, p1, p2, K =>
  if decide (p2 < p1) = true then
   (none)
  else
   (K ())
def L21_0_s : List SC := [.one .nilp, .one .undef, .one .undef, .one (.list .str (.own false false)), .one .undef, .one .undef, .one (.int .i64), .one (.int .i64), .one .undef, .one .undef, .one .undef, .one .undef, .one .undef, .one .undef, .one .undef, .one .undef, .one .undef, .one .undef, .one .undef, .one .undef, .one .undef, .one .undef, .one .undef]
def L21_0_b : List (List SC) := [[], [], [], [], [], [], [], [], [], [], [], [], [], [], [], [], [], [], [], [], [], [], []]
def L21_0_m (k : Nat) (κ : Res → Option Res) (lf : LoopF) : LoopF := fun p σ K => if pathEq p [true, true, false, true, false] = true then (if okSt 23 L21_0_s L21_0_b σ = true then L21_0 k (fun x => κ ((.list .str x (.own false false), []) : Res)) (listOf .str (nth σ.slots 3)) (intOf (nth σ.slots 6)) (intOf (nth σ.slots 7)) (fun v => K (.exit 0) ⟨23, [.nilp, .undef, .undef, .list .str (listOf .str (nth σ.slots 3)) (.own false false), .undef, .undef, .int .i64 (intOf (nth σ.slots 6)), .int .i64 (intOf (nth σ.slots 7)), .undef, .undef, .undef, .undef, .undef, .undef, .undef, .undef, .undef, .undef, .undef, .undef, .undef, .undef, .undef], [[], [], [], [], [], [], [], [], [], [], [], [], [], [], [], [], [], [], [], [], [], [], []]⟩) else lf p σ K) else lf p σ K
theorem L21_0_d (k : Nat) (κ : Res → Option Res) (h : ∀ (p0 : (List ByteArray)) (p1 : Int) (p2 : Int) (K : Cont), (ev Try.prog cfg k).loop 21 0 κ [true, true, false, true, false] ⟨23, [.nilp, .undef, .undef, .list .str p0 (.own false false), .undef, .undef, .int .i64 p1, .int .i64 p2, .undef, .undef, .undef, .undef, .undef, .undef, .undef, .undef, .undef, .undef, .undef, .undef, .undef, .undef, .undef], [[], [], [], [], [], [], [], [], [], [], [], [], [], [], [], [], [], [], [], [], [], [], []]⟩ K = L21_0 k (fun x => κ ((.list .str x (.own false false), []) : Res)) p0 p1 p2 (fun v => K (.exit 0) ⟨23, [.nilp, .undef, .undef, .list .str p0 (.own false false), .undef, .undef, .int .i64 p1, .int .i64 p2, .undef, .undef, .undef, .undef, .undef, .undef, .undef, .undef, .undef, .undef, .undef, .undef, .undef, .undef, .undef], [[], [], [], [], [], [], [], [], [], [], [], [], [], [], [], [], [], [], [], [], [], [], []]⟩)) : L21_0_m k κ ((ev Try.prog cfg k).loop 21 0 κ) = (ev Try.prog cfg k).loop 21 0 κ := by
  funext p σ K
  unfold L21_0_m
  split
  · rename_i hp
    split
    · rename_i hs
      have e : mkSt 23 L21_0_s L21_0_b σ = ⟨23, [.nilp, .undef, .undef, .list .str (listOf .str (nth σ.slots 3)) (.own false false), .undef, .undef, .int .i64 (intOf (nth σ.slots 6)), .int .i64 (intOf (nth σ.slots 7)), .undef, .undef, .undef, .undef, .undef, .undef, .undef, .undef, .undef, .undef, .undef, .undef, .undef, .undef, .undef], [[], [], [], [], [], [], [], [], [], [], [], [], [], [], [], [], [], [], [], [], [], [], []]⟩ := by kernel_rfl
      rw [pathEq_eq hp]
      exact (h (listOf .str (nth σ.slots 3)) (intOf (nth σ.slots 6)) (intOf (nth σ.slots 7)) K).symm.trans (congrArg (fun s => (ev Try.prog cfg k).loop 21 0 κ [true, true, false, true, false] s K) (e.symm.trans (okSt_eq hs).symm))
    · rfl
  · rfl
theorem L21_0_ev : ∀ (k : Nat) (κ : Res → Option Res) (p0 : (List ByteArray)) (p1 : Int) (p2 : Int) (K : Cont), (ev Try.prog cfg k).loop 21 0 κ [true, true, false, true, false] ⟨23, [.nilp, .undef, .undef, .list .str p0 (.own false false), .undef, .undef, .int .i64 p1, .int .i64 p2, .undef, .undef, .undef, .undef, .undef, .undef, .undef, .undef, .undef, .undef, .undef, .undef, .undef, .undef, .undef], [[], [], [], [], [], [], [], [], [], [], [], [], [], [], [], [], [], [], [], [], [], [], []]⟩ K = L21_0 k (fun x => κ ((.list .str x (.own false false), []) : Res)) p0 p1 p2 (fun v => K (.exit 0) ⟨23, [.nilp, .undef, .undef, .list .str p0 (.own false false), .undef, .undef, .int .i64 p1, .int .i64 p2, .undef, .undef, .undef, .undef, .undef, .undef, .undef, .undef, .undef, .undef, .undef, .undef, .undef, .undef, .undef], [[], [], [], [], [], [], [], [], [], [], [], [], [], [], [], [], [], [], [], [], [], [], []]⟩) := by
  intro k κ
  induction k with
  | zero => intro p0 p1 p2 K; rfl
  | succ k ih =>
    intro p0 p1 p2 K
    rw [ev_loop, ← L21_0_d k κ ih]
    kernel_rfl
/-- (*lamplighter/schema.Schema).Names -/
def F21 : Nat →  ((List ByteArray) → Option Res) → Option Res
  | 0, _ => none
  | k + 1, κ =>
  F22 k  fun x1 =>
  L21_0 k κ ([] : List ByteArray) x1 (0 : Int) fun v2 =>
  κ ([] : List ByteArray)
def F21_s : List SC := [.one .nilp]
def F21_b : List (List SC) := []
def F21_m (k : Nat) (cf : CallF) : CallF := fun f args lent κ => if Nat.beq f 21 = true then (if (okC F21_s args && okB F21_b lent) = true then F21 k  (fun x => κ ((.list .str x (.own false false), []) : Res)) else cf f args lent κ) else cf f args lent κ
theorem F21_d (k : Nat) (h : ∀  (κ : Res → Option Res), (ev Try.prog cfg k).call 21 [.nilp] [] κ = F21 k  (fun x => κ ((.list .str x (.own false false), []) : Res))) : F21_m k (ev Try.prog cfg k).call = (ev Try.prog cfg k).call := by
  funext f args lent κ
  unfold F21_m
  split
  · rename_i hp
    split
    · rename_i hs
      rw [Bool.and_eq_true] at hs
      have e : mkC F21_s 0 args = [.nilp] := by kernel_rfl
      have e' : mkB F21_b 0 lent = [] := by kernel_rfl
      obtain rfl := Nat.eq_of_beq_eq_true hp
      exact (h  κ).symm.trans (cong2 (fun a l => (ev Try.prog cfg k).call 21 a l κ) (e.symm.trans (okC_eq hs.1).symm) (e'.symm.trans (okB_eq hs.2).symm))
    · rfl
  · rfl
theorem F21_ev : ∀ (k : Nat)  (κ : Res → Option Res), (ev Try.prog cfg k).call 21 [.nilp] [] κ = F21 k  (fun x => κ ((.list .str x (.own false false), []) : Res)) := by
  intro k
  induction k with
  | zero => intros; rfl
  | succ k ih =>
    intro  κ
    refine (ev_call' Try.prog cfg k 21 0 _ _ κ (by rfl)).trans ?_
    rw [← F22_d k (F22_ev k), ← L21_0_d k κ (L21_0_ev k κ)]
    kernel_rfl
def L21v1_0 : Nat → ((List ByteArray) × (List (ByteArray × (List (ByteArray × Int)))) → Option Res) → (List ByteArray) → Int → Int → (List (ByteArray × (List (ByteArray × Int)))) → ((List ByteArray) × Int → Option Res) → Option Res
  | 0, _, _, _, _, _, _ => none
  | k + 1, κ, p0, p1, p2, p3, K =>
  if decide (p2 < p1) = true then
   (if (decide ((0 : Int) ≤ p2) && decide (p2 < (p3.length : Int))) = true then if decide (p2.toNat < p3.length) = true then if decide ((p0.length + ([(p3.getD p2.toNat ((⟨#[]⟩ : ByteArray), ([] : List (ByteArray × Int)))).1] : List ByteArray).length) * 16 ≤ 140737488355328) = true then L21v1_0 k κ (p0 ++ ([(p3.getD p2.toNat ((⟨#[]⟩ : ByteArray), ([] : List (ByteArray × Int)))).1] : List ByteArray)) p1 (IntKind.wrap .i64 (p2 + (1 : Int))) p3 K else none else none else none)
  else
   (K (p0, p2))
def L21v1_0_s : List SC := [.one (.ref 23 0), .one .undef, .one .undef, .one (.list .str (.own false false)), .one .undef, .one .undef, .one (.int .i64), .one (.int .i64), .one .undef, .one .undef, .one .undef, .one .undef, .one .undef, .one .undef, .one .undef, .one .undef, .one .undef, .one .undef, .one .undef, .one .undef, .one .undef, .one .undef, .one .undef]
def L21v1_0_b : List (List SC) := [[], [], [], [], [], [], [], [], [], [], [], [], [], [], [], [], [], [], [], [], [], [], [], [.one (.list (.pair .str (.list (.pair .str (.int .i64)))) (.own false false))]]
def L21v1_0_m (k : Nat) (κ : Res → Option Res) (lf : LoopF) : LoopF := fun p σ K => if pathEq p [true, true, false, true, false] = true then (if okSt 23 L21v1_0_s L21v1_0_b σ = true then L21v1_0 k (fun x => κ ((.list .str x.1 (.own false false), [[.list (.pair .str (.list (.pair .str (.int .i64)))) x.2 (.own false false)]]) : Res)) (listOf .str (nth σ.slots 3)) (intOf (nth σ.slots 6)) (intOf (nth σ.slots 7)) (listOf (.pair .str (.list (.pair .str (.int .i64)))) (nth (nthB σ.boxes 23) 0)) (fun v => K (.exit 0) ⟨23, [.ref 23 0, .undef, .undef, .list .str v.1 (.own false false), .undef, .undef, .int .i64 (intOf (nth σ.slots 6)), .int .i64 v.2, .undef, .undef, .undef, .undef, .undef, .undef, .undef, .undef, .undef, .undef, .undef, .undef, .undef, .undef, .undef], [[], [], [], [], [], [], [], [], [], [], [], [], [], [], [], [], [], [], [], [], [], [], [], [.list (.pair .str (.list (.pair .str (.int .i64)))) (listOf (.pair .str (.list (.pair .str (.int .i64)))) (nth (nthB σ.boxes 23) 0)) (.own false false)]]⟩) else lf p σ K) else lf p σ K
theorem L21v1_0_d (k : Nat) (κ : Res → Option Res) (h : ∀ (p0 : (List ByteArray)) (p1 : Int) (p2 : Int) (p3 : (List (ByteArray × (List (ByteArray × Int))))) (K : Cont), (ev Try.prog cfg k).loop 21 1 κ [true, true, false, true, false] ⟨23, [.ref 23 0, .undef, .undef, .list .str p0 (.own false false), .undef, .undef, .int .i64 p1, .int .i64 p2, .undef, .undef, .undef, .undef, .undef, .undef, .undef, .undef, .undef, .undef, .undef, .undef, .undef, .undef, .undef], [[], [], [], [], [], [], [], [], [], [], [], [], [], [], [], [], [], [], [], [], [], [], [], [.list (.pair .str (.list (.pair .str (.int .i64)))) p3 (.own false false)]]⟩ K = L21v1_0 k (fun x => κ ((.list .str x.1 (.own false false), [[.list (.pair .str (.list (.pair .str (.int .i64)))) x.2 (.own false false)]]) : Res)) p0 p1 p2 p3 (fun v => K (.exit 0) ⟨23, [.ref 23 0, .undef, .undef, .list .str v.1 (.own false false), .undef, .undef, .int .i64 p1, .int .i64 v.2, .undef, .undef, .undef, .undef, .undef, .undef, .undef, .undef, .undef, .undef, .undef, .undef, .undef, .undef, .undef], [[], [], [], [], [], [], [], [], [], [], [], [], [], [], [], [], [], [], [], [], [], [], [], [.list (.pair .str (.list (.pair .str (.int .i64)))) p3 (.own false false)]]⟩)) : L21v1_0_m k κ ((ev Try.prog cfg k).loop 21 1 κ) = (ev Try.prog cfg k).loop 21 1 κ := by
  funext p σ K
  unfold L21v1_0_m
  split
  · rename_i hp
    split
    · rename_i hs
      have e : mkSt 23 L21v1_0_s L21v1_0_b σ = ⟨23, [.ref 23 0, .undef, .undef, .list .str (listOf .str (nth σ.slots 3)) (.own false false), .undef, .undef, .int .i64 (intOf (nth σ.slots 6)), .int .i64 (intOf (nth σ.slots 7)), .undef, .undef, .undef, .undef, .undef, .undef, .undef, .undef, .undef, .undef, .undef, .undef, .undef, .undef, .undef], [[], [], [], [], [], [], [], [], [], [], [], [], [], [], [], [], [], [], [], [], [], [], [], [.list (.pair .str (.list (.pair .str (.int .i64)))) (listOf (.pair .str (.list (.pair .str (.int .i64)))) (nth (nthB σ.boxes 23) 0)) (.own false false)]]⟩ := by kernel_rfl
      rw [pathEq_eq hp]
      exact (h (listOf .str (nth σ.slots 3)) (intOf (nth σ.slots 6)) (intOf (nth σ.slots 7)) (listOf (.pair .str (.list (.pair .str (.int .i64)))) (nth (nthB σ.boxes 23) 0)) K).symm.trans (congrArg (fun s => (ev Try.prog cfg k).loop 21 1 κ [true, true, false, true, false] s K) (e.symm.trans (okSt_eq hs).symm))
    · rfl
  · rfl
theorem L21v1_0_ev : ∀ (k : Nat) (κ : Res → Option Res) (p0 : (List ByteArray)) (p1 : Int) (p2 : Int) (p3 : (List (ByteArray × (List (ByteArray × Int))))) (K : Cont), (ev Try.prog cfg k).loop 21 1 κ [true, true, false, true, false] ⟨23, [.ref 23 0, .undef, .undef, .list .str p0 (.own false false), .undef, .undef, .int .i64 p1, .int .i64 p2, .undef, .undef, .undef, .undef, .undef, .undef, .undef, .undef, .undef, .undef, .undef, .undef, .undef, .undef, .undef], [[], [], [], [], [], [], [], [], [], [], [], [], [], [], [], [], [], [], [], [], [], [], [], [.list (.pair .str (.list (.pair .str (.int .i64)))) p3 (.own false false)]]⟩ K = L21v1_0 k (fun x => κ ((.list .str x.1 (.own false false), [[.list (.pair .str (.list (.pair .str (.int .i64)))) x.2 (.own false false)]]) : Res)) p0 p1 p2 p3 (fun v => K (.exit 0) ⟨23, [.ref 23 0, .undef, .undef, .list .str v.1 (.own false false), .undef, .undef, .int .i64 p1, .int .i64 v.2, .undef, .undef, .undef, .undef, .undef, .undef, .undef, .undef, .undef, .undef, .undef, .undef, .undef, .undef, .undef], [[], [], [], [], [], [], [], [], [], [], [], [], [], [], [], [], [], [], [], [], [], [], [], [.list (.pair .str (.list (.pair .str (.int .i64)))) p3 (.own false false)]]⟩) := by
  intro k κ
  induction k with
  | zero => intro p0 p1 p2 p3 K; rfl
  | succ k ih =>
    intro p0 p1 p2 p3 K
    rw [ev_loop, ← L21v1_0_d k κ ih]
    kernel_rfl
/-- (*lamplighter/schema.Schema).Names -/
def F21v1 : Nat → (List (ByteArray × (List (ByteArray × Int)))) → ((List ByteArray) × (List (ByteArray × (List (ByteArray × Int)))) → Option Res) → Option Res
  | 0, _, _ => none
  | k + 1, b0_0, κ =>
  F22v1 k b0_0 fun x1 =>
  L21v1_0 k κ ([] : List ByteArray) x1.1 (0 : Int) x1.2 fun v2 =>
  κ (v2.1, x1.2)
def F21v1_s : List SC := [.one (.ref 0 0)]
def F21v1_b : List (List SC) := [[.one (.list (.pair .str (.list (.pair .str (.int .i64)))) (.own false false))]]
def F21v1_m (k : Nat) (cf : CallF) : CallF := fun f args lent κ => if Nat.beq f 21 = true then (if (okC F21v1_s args && okB F21v1_b lent) = true then F21v1 k (listOf (.pair .str (.list (.pair .str (.int .i64)))) (nth (nthB lent 0) 0)) (fun x => κ ((.list .str x.1 (.own false false), [[.list (.pair .str (.list (.pair .str (.int .i64)))) x.2 (.own false false)]]) : Res)) else cf f args lent κ) else cf f args lent κ
theorem F21v1_d (k : Nat) (h : ∀ (b0_0 : (List (ByteArray × (List (ByteArray × Int))))) (κ : Res → Option Res), (ev Try.prog cfg k).call 21 [.ref 0 0] [[.list (.pair .str (.list (.pair .str (.int .i64)))) b0_0 (.own false false)]] κ = F21v1 k b0_0 (fun x => κ ((.list .str x.1 (.own false false), [[.list (.pair .str (.list (.pair .str (.int .i64)))) x.2 (.own false false)]]) : Res))) : F21v1_m k (ev Try.prog cfg k).call = (ev Try.prog cfg k).call := by
  funext f args lent κ
  unfold F21v1_m
  split
  · rename_i hp
    split
    · rename_i hs
      rw [Bool.and_eq_true] at hs
      have e : mkC F21v1_s 0 args = [.ref 0 0] := by kernel_rfl
      have e' : mkB F21v1_b 0 lent = [[.list (.pair .str (.list (.pair .str (.int .i64)))) (listOf (.pair .str (.list (.pair .str (.int .i64)))) (nth (nthB lent 0) 0)) (.own false false)]] := by kernel_rfl
      obtain rfl := Nat.eq_of_beq_eq_true hp
      exact (h (listOf (.pair .str (.list (.pair .str (.int .i64)))) (nth (nthB lent 0) 0)) κ).symm.trans (cong2 (fun a l => (ev Try.prog cfg k).call 21 a l κ) (e.symm.trans (okC_eq hs.1).symm) (e'.symm.trans (okB_eq hs.2).symm))
    · rfl
  · rfl
theorem F21v1_ev : ∀ (k : Nat) (b0_0 : (List (ByteArray × (List (ByteArray × Int))))) (κ : Res → Option Res), (ev Try.prog cfg k).call 21 [.ref 0 0] [[.list (.pair .str (.list (.pair .str (.int .i64)))) b0_0 (.own false false)]] κ = F21v1 k b0_0 (fun x => κ ((.list .str x.1 (.own false false), [[.list (.pair .str (.list (.pair .str (.int .i64)))) x.2 (.own false false)]]) : Res)) := by
  intro k
  induction k with
  | zero => intros; rfl
  | succ k ih =>
    intro b0_0 κ
    refine (ev_call' Try.prog cfg k 21 1 _ _ κ (by rfl)).trans ?_
    rw [← F22v1_d k (F22v1_ev k), ← L21v1_0_d k κ (L21v1_0_ev k κ)]
    kernel_rfl
def L4_3 : Nat → (Bool → Option Res) → (List (ByteArray × (List (ByteArray × Int)))) → (List ByteArray) → Int → Int → Int → ByteArray → (List (ByteArray × Int)) → (List (ByteArray × (List (ByteArray × Int)))) → (Int × (List (ByteArray × (List (ByteArray × Int)))) → Option Res) → Option Res
  | 0, _, _, _, _, _, _, _, _, _, _ => none
  | k + 1, κ, p0, p1, p2, p3, p4, p5, p6, p7, K =>
  if decide (p3 < (p6.length : Int)) = true then
   (if (decide ((0 : Int) ≤ p3) && decide (p3 < (p6.length : Int))) = true then
    (F24v1 k p5 ((p6.getD p3.toNat ((⟨#[]⟩ : ByteArray), (0 : Int))).1) p7 fun x20 =>
    if (decide ((0 : Int) ≤ p3) && decide (p3 < (p6.length : Int))) = true then
     (if (decide ((0 : Int) ≤ p2) && decide (p2 < (p0.length : Int))) = true then
      (if (decide ((0 : Int) ≤ p3) && decide (p3 < (((p0.getD p2.toNat ((⟨#[]⟩ : ByteArray), ([] : List (ByteArray × Int)))).2).length : Int))) = true then
       (if (!(((p6.getD p3.toNat ((⟨#[]⟩ : ByteArray), (0 : Int))).1 == (((p0.getD p2.toNat ((⟨#[]⟩ : ByteArray), ([] : List (ByteArray × Int)))).2).getD p3.toNat ((⟨#[]⟩ : ByteArray), (0 : Int))).1) && (((p6.getD p3.toNat ((⟨#[]⟩ : ByteArray), (0 : Int))).2) == ((((p0.getD p2.toNat ((⟨#[]⟩ : ByteArray), ([] : List (ByteArray × Int)))).2).getD p3.toNat ((⟨#[]⟩ : ByteArray), (0 : Int))).2)))) = true then
        (κ false)
       else
        (if (x20.1 != p3) = true then
         (κ false)
        else
         (if (decide ((0 : Int) ≤ p3) && decide (p3 < (p6.length : Int))) = true then
          (if (x20.2.1 != ((p6.getD p3.toNat ((⟨#[]⟩ : ByteArray), (0 : Int))).2)) = true then
           (κ false)
          else
           (L4_3 k κ p0 p1 p2 (IntKind.wrap .i64 (p3 + (1 : Int))) p4 p5 p6 x20.2.2 K))
         else
          (none))))
      else
       (none))
     else
      (none))
    else
     (none))
   else
    (none))
  else
   (K (p3, p7))
def L4_3_s : List SC := [.one .undef, .one .undef, .one .undef, .one .undef, .one .undef, .one (.list (.pair .str (.list (.pair .str (.int .i64)))) (.own true false)), .one (.ref 24 0), .one .undef, .one (.list .str (.own false false)), .one (.int .i64), .one (.ref 10 0), .one .undef, .one (.int .i64), .one .undef, .one .undef, .one .undef, .one .undef, .one .undef, .one .undef, .one .undef, .one .undef, .one .undef, .one .undef, .one .undef, .tup [.one (.ref 24 0), .one (.int .i64)], .one .undef, .one .undef, .one .undef, .one .undef, .one .undef, .one .undef, .one .undef, .one .undef, .one .undef, .one .undef, .one .undef, .one .undef, .one .undef, .one .undef, .one .undef, .one .undef, .one .undef, .one .undef, .one .undef, .one .undef, .one .undef, .one .undef, .one .undef, .one .undef, .one .undef, .one .undef, .one .undef, .one .undef, .one .undef, .one .undef, .one .undef, .one .undef, .one .undef, .one .undef, .one .undef, .one .undef, .one .undef, .one .undef, .one .undef, .one .undef, .one .undef, .one .undef, .one .undef, .one .undef, .one .undef, .one .undef, .one .undef, .one .undef, .one .undef, .one .undef, .one .undef, .one .undef, .one .undef, .one .undef, .one .undef, .one .undef, .one .undef, .one .undef, .one .undef, .one .undef, .one .undef, .one .undef, .one .undef, .one .undef, .one .undef, .one .undef, .one .undef, .one .undef, .one .undef, .one .undef, .one .undef, .one .undef, .one .undef, .one .undef, .one .undef, .one .undef, .one .undef, .one .undef, .one .undef, .one .undef, .one .undef, .one .undef, .one .undef, .one .undef, .one .undef, .one .undef, .one .undef, .one .undef, .one .undef, .one .undef, .one .undef, .one .undef, .one .undef, .one .undef, .one .undef, .one .undef, .one .undef, .one .undef, .one .undef, .one .undef, .one .undef, .one .undef, .one .undef, .one .undef, .one .undef, .one .undef, .one .undef, .one .undef, .one .undef, .one .undef, .one .undef, .one .undef, .one .undef, .one .undef, .one .undef, .one .undef, .one .undef, .one .undef, .one .undef, .one .undef, .one .undef, .one .undef, .one .undef, .one .undef, .one .undef, .one .undef, .one .undef, .one .undef, .one .undef, .one .undef, .one .undef, .one .undef, .one .undef, .one .undef, .one .undef, .one .undef, .one .undef, .one .undef, .one .undef, .one .undef, .one .undef, .one .undef, .one .undef, .one .undef, .one .undef, .one .undef, .one .undef, .one .undef]
def L4_3_b : List (List SC) := [[], [], [], [], [], [], [], [], [], [], [.one .str, .one (.list (.pair .str (.int .i64)) .no)], [], [], [], [], [], [], [], [], [], [], [], [], [], [.one (.list (.pair .str (.list (.pair .str (.int .i64)))) (.own false false))], [], [], [], [], [], [], [], [], [], [], [], [], [], [], [], [], [], [], [], [], [], [], [], [], [], [], [], [], [], [], [], [], [], [], [], [], [], [], [], [], [], [], [], [], [], [], [], [], [], [], [], [], [], [], [], [], [], [], [], [], [], [], [], [], [], [], [], [], [], [], [], [], [], [], [], [], [], [], [], [], [], [], [], [], [], [], [], [], [], [], [], [], [], [], [], [], [], [], [], [], [], [], [], [], [], [], [], [], [], [], [], [], [], [], [], [], [], [], [], [], [], [], [], [], [], [], [], [], [], [], [], [], [], [], [], [], [], [], [], [], [], [], [], [], [], [], [], []]
def L4_3_m (k : Nat) (κ : Res → Option Res) (lf : LoopF) : LoopF := fun p σ K => if pathEq p [true, true, true, true, true, true, true, false, true, false, false, true, false, false, true, true, false, true, false] = true then (if okSt 173 L4_3_s L4_3_b σ = true then L4_3 k (fun x => κ ((.bool x, []) : Res)) (listOf (.pair .str (.list (.pair .str (.int .i64)))) (nth σ.slots 5)) (listOf .str (nth σ.slots 8)) (intOf (nth σ.slots 9)) (intOf (nth σ.slots 12)) (intOf (nth (aggOf (nth σ.slots 24)) 1)) (stringOf (nth (nthB σ.boxes 10) 0)) (listOf (.pair .str (.int .i64)) (nth (nthB σ.boxes 10) 1)) (listOf (.pair .str (.list (.pair .str (.int .i64)))) (nth (nthB σ.boxes 24) 0)) (fun v => K (.exit 2) ⟨173, [.undef, .undef, .undef, .undef, .undef, .list (.pair .str (.list (.pair .str (.int .i64)))) (listOf (.pair .str (.list (.pair .str (.int .i64)))) (nth σ.slots 5)) (.own true false), .ref 24 0, .undef, .list .str (listOf .str (nth σ.slots 8)) (.own false false), .int .i64 (intOf (nth σ.slots 9)), .ref 10 0, .undef, .int .i64 v.1, .undef, .undef, .undef, .undef, .undef, .undef, .undef, .undef, .undef, .undef, .undef, .tup [.ref 24 0, .int .i64 (intOf (nth (aggOf (nth σ.slots 24)) 1))], .undef, .undef, .undef, .undef, .undef, .undef, .undef, .undef, .undef, .undef, .undef, .undef, .undef, .undef, .undef, .undef, .undef, .undef, .undef, .undef, .undef, .undef, .undef, .undef, .undef, .undef, .undef, .undef, .undef, .undef, .undef, .undef, .undef, .undef, .undef, .undef, .undef, .undef, .undef, .undef, .undef, .undef, .undef, .undef, .undef, .undef, .undef, .undef, .undef, .undef, .undef, .undef, .undef, .undef, .undef, .undef, .undef, .undef, .undef, .undef, .undef, .undef, .undef, .undef, .undef, .undef, .undef, .undef, .undef, .undef, .undef, .undef, .undef, .undef, .undef, .undef, .undef, .undef, .undef, .undef, .undef, .undef, .undef, .undef, .undef, .undef, .undef, .undef, .undef, .undef, .undef, .undef, .undef, .undef, .undef, .undef, .undef, .undef, .undef, .undef, .undef, .undef, .undef, .undef, .undef, .undef, .undef, .undef, .undef, .undef, .undef, .undef, .undef, .undef, .undef, .undef, .undef, .undef, .undef, .undef, .undef, .undef, .undef, .undef, .undef, .undef, .undef, .undef, .undef, .undef, .undef, .undef, .undef, .undef, .undef, .undef, .undef, .undef, .undef, .undef, .undef, .undef, .undef, .undef, .undef, .undef, .undef, .undef], [[], [], [], [], [], [], [], [], [], [], [.str (stringOf (nth (nthB σ.boxes 10) 0)), .list (.pair .str (.int .i64)) (listOf (.pair .str (.int .i64)) (nth (nthB σ.boxes 10) 1)) .no], [], [], [], [], [], [], [], [], [], [], [], [], [], [.list (.pair .str (.list (.pair .str (.int .i64)))) v.2 (.own false false)], [], [], [], [], [], [], [], [], [], [], [], [], [], [], [], [], [], [], [], [], [], [], [], [], [], [], [], [], [], [], [], [], [], [], [], [], [], [], [], [], [], [], [], [], [], [], [], [], [], [], [], [], [], [], [], [], [], [], [], [], [], [], [], [], [], [], [], [], [], [], [], [], [], [], [], [], [], [], [], [], [], [], [], [], [], [], [], [], [], [], [], [], [], [], [], [], [], [], [], [], [], [], [], [], [], [], [], [], [], [], [], [], [], [], [], [], [], [], [], [], [], [], [], [], [], [], [], [], [], [], [], [], [], [], [], [], [], [], [], [], [], [], [], [], [], [], [], []]⟩) else lf p σ K) else lf p σ K
theorem L4_3_d (k : Nat) (κ : Res → Option Res) (h : ∀ (p0 : (List (ByteArray × (List (ByteArray × Int))))) (p1 : (List ByteArray)) (p2 : Int) (p3 : Int) (p4 : Int) (p5 : ByteArray) (p6 : (List (ByteArray × Int))) (p7 : (List (ByteArray × (List (ByteArray × Int))))) (K : Cont), (ev Try.prog cfg k).loop 4 0 κ [true, true, true, true, true, true, true, false, true, false, false, true, false, false, true, true, false, true, false] ⟨173, [.undef, .undef, .undef, .undef, .undef, .list (.pair .str (.list (.pair .str (.int .i64)))) p0 (.own true false), .ref 24 0, .undef, .list .str p1 (.own false false), .int .i64 p2, .ref 10 0, .undef, .int .i64 p3, .undef, .undef, .undef, .undef, .undef, .undef, .undef, .undef, .undef, .undef, .undef, .tup [.ref 24 0, .int .i64 p4], .undef, .undef, .undef, .undef, .undef, .undef, .undef, .undef, .undef, .undef, .undef, .undef, .undef, .undef, .undef, .undef, .undef, .undef, .undef, .undef, .undef, .undef, .undef, .undef, .undef, .undef, .undef, .undef, .undef, .undef, .undef, .undef, .undef, .undef, .undef, .undef, .undef, .undef, .undef, .undef, .undef, .undef, .undef, .undef, .undef, .undef, .undef, .undef, .undef, .undef, .undef, .undef, .undef, .undef, .undef, .undef, .undef, .undef, .undef, .undef, .undef, .undef, .undef, .undef, .undef, .undef, .undef, .undef, .undef, .undef, .undef, .undef, .undef, .undef, .undef, .undef, .undef, .undef, .undef, .undef, .undef, .undef, .undef, .undef, .undef, .undef, .undef, .undef, .undef, .undef, .undef, .undef, .undef, .undef, .undef, .undef, .undef, .undef, .undef, .undef, .undef, .undef, .undef, .undef, .undef, .undef, .undef, .undef, .undef, .undef, .undef, .undef, .undef, .undef, .undef, .undef, .undef, .undef, .undef, .undef, .undef, .undef, .undef, .undef, .undef, .undef, .undef, .undef, .undef, .undef, .undef, .undef, .undef, .undef, .undef, .undef, .undef, .undef, .undef, .undef, .undef, .undef, .undef, .undef, .undef, .undef, .undef, .undef], [[], [], [], [], [], [], [], [], [], [], [.str p5, .list (.pair .str (.int .i64)) p6 .no], [], [], [], [], [], [], [], [], [], [], [], [], [], [.list (.pair .str (.list (.pair .str (.int .i64)))) p7 (.own false false)], [], [], [], [], [], [], [], [], [], [], [], [], [], [], [], [], [], [], [], [], [], [], [], [], [], [], [], [], [], [], [], [], [], [], [], [], [], [], [], [], [], [], [], [], [], [], [], [], [], [], [], [], [], [], [], [], [], [], [], [], [], [], [], [], [], [], [], [], [], [], [], [], [], [], [], [], [], [], [], [], [], [], [], [], [], [], [], [], [], [], [], [], [], [], [], [], [], [], [], [], [], [], [], [], [], [], [], [], [], [], [], [], [], [], [], [], [], [], [], [], [], [], [], [], [], [], [], [], [], [], [], [], [], [], [], [], [], [], [], [], [], [], [], [], [], [], [], []]⟩ K = L4_3 k (fun x => κ ((.bool x, []) : Res)) p0 p1 p2 p3 p4 p5 p6 p7 (fun v => K (.exit 2) ⟨173, [.undef, .undef, .undef, .undef, .undef, .list (.pair .str (.list (.pair .str (.int .i64)))) p0 (.own true false), .ref 24 0, .undef, .list .str p1 (.own false false), .int .i64 p2, .ref 10 0, .undef, .int .i64 v.1, .undef, .undef, .undef, .undef, .undef, .undef, .undef, .undef, .undef, .undef, .undef, .tup [.ref 24 0, .int .i64 p4], .undef, .undef, .undef, .undef, .undef, .undef, .undef, .undef, .undef, .undef, .undef, .undef, .undef, .undef, .undef, .undef, .undef, .undef, .undef, .undef, .undef, .undef, .undef, .undef, .undef, .undef, .undef, .undef, .undef, .undef, .undef, .undef, .undef, .undef, .undef, .undef, .undef, .undef, .undef, .undef, .undef, .undef, .undef, .undef, .undef, .undef, .undef, .undef, .undef, .undef, .undef, .undef, .undef, .undef, .undef, .undef, .undef, .undef, .undef, .undef, .undef, .undef, .undef, .undef, .undef, .undef, .undef, .undef, .undef, .undef, .undef, .undef, .undef, .undef, .undef, .undef, .undef, .undef, .undef, .undef, .undef, .undef, .undef, .undef, .undef, .undef, .undef, .undef, .undef, .undef, .undef, .undef, .undef, .undef, .undef, .undef, .undef, .undef, .undef, .undef, .undef, .undef, .undef, .undef, .undef, .undef, .undef, .undef, .undef, .undef, .undef, .undef, .undef, .undef, .undef, .undef, .undef, .undef, .undef, .undef, .undef, .undef, .undef, .undef, .undef, .undef, .undef, .undef, .undef, .undef, .undef, .undef, .undef, .undef, .undef, .undef, .undef, .undef, .undef, .undef, .undef, .undef, .undef, .undef, .undef, .undef, .undef, .undef], [[], [], [], [], [], [], [], [], [], [], [.str p5, .list (.pair .str (.int .i64)) p6 .no], [], [], [], [], [], [], [], [], [], [], [], [], [], [.list (.pair .str (.list (.pair .str (.int .i64)))) v.2 (.own false false)], [], [], [], [], [], [], [], [], [], [], [], [], [], [], [], [], [], [], [], [], [], [], [], [], [], [], [], [], [], [], [], [], [], [], [], [], [], [], [], [], [], [], [], [], [], [], [], [], [], [], [], [], [], [], [], [], [], [], [], [], [], [], [], [], [], [], [], [], [], [], [], [], [], [], [], [], [], [], [], [], [], [], [], [], [], [], [], [], [], [], [], [], [], [], [], [], [], [], [], [], [], [], [], [], [], [], [], [], [], [], [], [], [], [], [], [], [], [], [], [], [], [], [], [], [], [], [], [], [], [], [], [], [], [], [], [], [], [], [], [], [], [], [], [], [], [], [], []]⟩)) : L4_3_m k κ ((ev Try.prog cfg k).loop 4 0 κ) = (ev Try.prog cfg k).loop 4 0 κ := by
  funext p σ K
  unfold L4_3_m
  split
  · rename_i hp
    split
    · rename_i hs
      have e : mkSt 173 L4_3_s L4_3_b σ = ⟨173, [.undef, .undef, .undef, .undef, .undef, .list (.pair .str (.list (.pair .str (.int .i64)))) (listOf (.pair .str (.list (.pair .str (.int .i64)))) (nth σ.slots 5)) (.own true false), .ref 24 0, .undef, .list .str (listOf .str (nth σ.slots 8)) (.own false false), .int .i64 (intOf (nth σ.slots 9)), .ref 10 0, .undef, .int .i64 (intOf (nth σ.slots 12)), .undef, .undef, .undef, .undef, .undef, .undef, .undef, .undef, .undef, .undef, .undef, .tup [.ref 24 0, .int .i64 (intOf (nth (aggOf (nth σ.slots 24)) 1))], .undef, .undef, .undef, .undef, .undef, .undef, .undef, .undef, .undef, .undef, .undef, .undef, .undef, .undef, .undef, .undef, .undef, .undef, .undef, .undef, .undef, .undef, .undef, .undef, .undef, .undef, .undef, .undef, .undef, .undef, .undef, .undef, .undef, .undef, .undef, .undef, .undef, .undef, .undef, .undef, .undef, .undef, .undef, .undef, .undef, .undef, .undef, .undef, .undef, .undef, .undef, .undef, .undef, .undef, .undef, .undef, .undef, .undef, .undef, .undef, .undef, .undef, .undef, .undef, .undef, .undef, .undef, .undef, .undef, .undef, .undef, .undef, .undef, .undef, .undef, .undef, .undef, .undef, .undef, .undef, .undef, .undef, .undef, .undef, .undef, .undef, .undef, .undef, .undef, .undef, .undef, .undef, .undef, .undef, .undef, .undef, .undef, .undef, .undef, .undef, .undef, .undef, .undef, .undef, .undef, .undef, .undef, .undef, .undef, .undef, .undef, .undef, .undef, .undef, .undef, .undef, .undef, .undef, .undef, .undef, .undef, .undef, .undef, .undef, .undef, .undef, .undef, .undef, .undef, .undef, .undef, .undef, .undef, .undef, .undef, .undef, .undef, .undef, .undef, .undef, .undef, .undef, .undef, .undef, .undef, .undef, .undef, .undef], [[], [], [], [], [], [], [], [], [], [], [.str (stringOf (nth (nthB σ.boxes 10) 0)), .list (.pair .str (.int .i64)) (listOf (.pair .str (.int .i64)) (nth (nthB σ.boxes 10) 1)) .no], [], [], [], [], [], [], [], [], [], [], [], [], [], [.list (.pair .str (.list (.pair .str (.int .i64)))) (listOf (.pair .str (.list (.pair .str (.int .i64)))) (nth (nthB σ.boxes 24) 0)) (.own false false)], [], [], [], [], [], [], [], [], [], [], [], [], [], [], [], [], [], [], [], [], [], [], [], [], [], [], [], [], [], [], [], [], [], [], [], [], [], [], [], [], [], [], [], [], [], [], [], [], [], [], [], [], [], [], [], [], [], [], [], [], [], [], [], [], [], [], [], [], [], [], [], [], [], [], [], [], [], [], [], [], [], [], [], [], [], [], [], [], [], [], [], [], [], [], [], [], [], [], [], [], [], [], [], [], [], [], [], [], [], [], [], [], [], [], [], [], [], [], [], [], [], [], [], [], [], [], [], [], [], [], [], [], [], [], [], [], [], [], [], [], [], [], [], [], [], [], [], []]⟩ := by kernel_rfl
      rw [pathEq_eq hp]
      exact (h (listOf (.pair .str (.list (.pair .str (.int .i64)))) (nth σ.slots 5)) (listOf .str (nth σ.slots 8)) (intOf (nth σ.slots 9)) (intOf (nth σ.slots 12)) (intOf (nth (aggOf (nth σ.slots 24)) 1)) (stringOf (nth (nthB σ.boxes 10) 0)) (listOf (.pair .str (.int .i64)) (nth (nthB σ.boxes 10) 1)) (listOf (.pair .str (.list (.pair .str (.int .i64)))) (nth (nthB σ.boxes 24) 0)) K).symm.trans (congrArg (fun s => (ev Try.prog cfg k).loop 4 0 κ [true, true, true, true, true, true, true, false, true, false, false, true, false, false, true, true, false, true, false] s K) (e.symm.trans (okSt_eq hs).symm))
    · rfl
  · rfl
theorem L4_3_ev : ∀ (k : Nat) (κ : Res → Option Res) (p0 : (List (ByteArray × (List (ByteArray × Int))))) (p1 : (List ByteArray)) (p2 : Int) (p3 : Int) (p4 : Int) (p5 : ByteArray) (p6 : (List (ByteArray × Int))) (p7 : (List (ByteArray × (List (ByteArray × Int))))) (K : Cont), (ev Try.prog cfg k).loop 4 0 κ [true, true, true, true, true, true, true, false, true, false, false, true, false, false, true, true, false, true, false] ⟨173, [.undef, .undef, .undef, .undef, .undef, .list (.pair .str (.list (.pair .str (.int .i64)))) p0 (.own true false), .ref 24 0, .undef, .list .str p1 (.own false false), .int .i64 p2, .ref 10 0, .undef, .int .i64 p3, .undef, .undef, .undef, .undef, .undef, .undef, .undef, .undef, .undef, .undef, .undef, .tup [.ref 24 0, .int .i64 p4], .undef, .undef, .undef, .undef, .undef, .undef, .undef, .undef, .undef, .undef, .undef, .undef, .undef, .undef, .undef, .undef, .undef, .undef, .undef, .undef, .undef, .undef, .undef, .undef, .undef, .undef, .undef, .undef, .undef, .undef, .undef, .undef, .undef, .undef, .undef, .undef, .undef, .undef, .undef, .undef, .undef, .undef, .undef, .undef, .undef, .undef, .undef, .undef, .undef, .undef, .undef, .undef, .undef, .undef, .undef, .undef, .undef, .undef, .undef, .undef, .undef, .undef, .undef, .undef, .undef, .undef, .undef, .undef, .undef, .undef, .undef, .undef, .undef, .undef, .undef, .undef, .undef, .undef, .undef, .undef, .undef, .undef, .undef, .undef, .undef, .undef, .undef, .undef, .undef, .undef, .undef, .undef, .undef, .undef, .undef, .undef, .undef, .undef, .undef, .undef, .undef, .undef, .undef, .undef, .undef, .undef, .undef, .undef, .undef, .undef, .undef, .undef, .undef, .undef, .undef, .undef, .undef, .undef, .undef, .undef, .undef, .undef, .undef, .undef, .undef, .undef, .undef, .undef, .undef, .undef, .undef, .undef, .undef, .undef, .undef, .undef, .undef, .undef, .undef, .undef, .undef, .undef, .undef, .undef, .undef, .undef, .undef, .undef], [[], [], [], [], [], [], [], [], [], [], [.str p5, .list (.pair .str (.int .i64)) p6 .no], [], [], [], [], [], [], [], [], [], [], [], [], [], [.list (.pair .str (.list (.pair .str (.int .i64)))) p7 (.own false false)], [], [], [], [], [], [], [], [], [], [], [], [], [], [], [], [], [], [], [], [], [], [], [], [], [], [], [], [], [], [], [], [], [], [], [], [], [], [], [], [], [], [], [], [], [], [], [], [], [], [], [], [], [], [], [], [], [], [], [], [], [], [], [], [], [], [], [], [], [], [], [], [], [], [], [], [], [], [], [], [], [], [], [], [], [], [], [], [], [], [], [], [], [], [], [], [], [], [], [], [], [], [], [], [], [], [], [], [], [], [], [], [], [], [], [], [], [], [], [], [], [], [], [], [], [], [], [], [], [], [], [], [], [], [], [], [], [], [], [], [], [], [], [], [], [], [], [], []]⟩ K = L4_3 k (fun x => κ ((.bool x, []) : Res)) p0 p1 p2 p3 p4 p5 p6 p7 (fun v => K (.exit 2) ⟨173, [.undef, .undef, .undef, .undef, .undef, .list (.pair .str (.list (.pair .str (.int .i64)))) p0 (.own true false), .ref 24 0, .undef, .list .str p1 (.own false false), .int .i64 p2, .ref 10 0, .undef, .int .i64 v.1, .undef, .undef, .undef, .undef, .undef, .undef, .undef, .undef, .undef, .undef, .undef, .tup [.ref 24 0, .int .i64 p4], .undef, .undef, .undef, .undef, .undef, .undef, .undef, .undef, .undef, .undef, .undef, .undef, .undef, .undef, .undef, .undef, .undef, .undef, .undef, .undef, .undef, .undef, .undef, .undef, .undef, .undef, .undef, .undef, .undef, .undef, .undef, .undef, .undef, .undef, .undef, .undef, .undef, .undef, .undef, .undef, .undef, .undef, .undef, .undef, .undef, .undef, .undef, .undef, .undef, .undef, .undef, .undef, .undef, .undef, .undef, .undef, .undef, .undef, .undef, .undef, .undef, .undef, .undef, .undef, .undef, .undef, .undef, .undef, .undef, .undef, .undef, .undef, .undef, .undef, .undef, .undef, .undef, .undef, .undef, .undef, .undef, .undef, .undef, .undef, .undef, .undef, .undef, .undef, .undef, .undef, .undef, .undef, .undef, .undef, .undef, .undef, .undef, .undef, .undef, .undef, .undef, .undef, .undef, .undef, .undef, .undef, .undef, .undef, .undef, .undef, .undef, .undef, .undef, .undef, .undef, .undef, .undef, .undef, .undef, .undef, .undef, .undef, .undef, .undef, .undef, .undef, .undef, .undef, .undef, .undef, .undef, .undef, .undef, .undef, .undef, .undef, .undef, .undef, .undef, .undef, .undef, .undef, .undef, .undef, .undef, .undef, .undef, .undef], [[], [], [], [], [], [], [], [], [], [], [.str p5, .list (.pair .str (.int .i64)) p6 .no], [], [], [], [], [], [], [], [], [], [], [], [], [], [.list (.pair .str (.list (.pair .str (.int .i64)))) v.2 (.own false false)], [], [], [], [], [], [], [], [], [], [], [], [], [], [], [], [], [], [], [], [], [], [], [], [], [], [], [], [], [], [], [], [], [], [], [], [], [], [], [], [], [], [], [], [], [], [], [], [], [], [], [], [], [], [], [], [], [], [], [], [], [], [], [], [], [], [], [], [], [], [], [], [], [], [], [], [], [], [], [], [], [], [], [], [], [], [], [], [], [], [], [], [], [], [], [], [], [], [], [], [], [], [], [], [], [], [], [], [], [], [], [], [], [], [], [], [], [], [], [], [], [], [], [], [], [], [], [], [], [], [], [], [], [], [], [], [], [], [], [], [], [], [], [], [], [], [], [], []]⟩) := by
  intro k κ
  induction k with
  | zero => intro p0 p1 p2 p3 p4 p5 p6 p7 K; rfl
  | succ k ih =>
    intro p0 p1 p2 p3 p4 p5 p6 p7 K
    rw [ev_loop, ← F24v1_d k (F24v1_ev k), ← L4_3_d k κ ih]
    kernel_rfl
def L4_2 : Nat → (Bool → Option Res) → (List (ByteArray × (List (ByteArray × Int)))) → (List ByteArray) → Int → Int → (List (ByteArray × (List (ByteArray × Int)))) → (Int × (List (ByteArray × (List (ByteArray × Int)))) → Option Res) → Option Res
  | 0, _, _, _, _, _, _, _ => none
  | k + 1, κ, p0, p1, p2, p3, p4, K =>
  if decide (p2 < (p0.length : Int)) = true then
   (if (decide ((0 : Int) ≤ p2) && decide (p2 < (p0.length : Int))) = true then
    (F23 k ((p0.getD p2.toNat ((⟨#[]⟩ : ByteArray), ([] : List (ByteArray × Int)))).1) p4 fun x19 =>
    if (!x19.2.1) = true then
     (κ false)
    else
     (if (decide ((0 : Int) ≤ p2) && decide (p2 < (p0.length : Int))) = true then
      (if (!(x19.1.1.toList == ((p0.getD p2.toNat ((⟨#[]⟩ : ByteArray), ([] : List (ByteArray × Int)))).1).toList)) = true then
       (κ false)
      else
       (if (decide ((0 : Int) ≤ p2) && decide (p2 < (p1.length : Int))) = true then
        (if decide (p2.toNat < p1.length) = true then
         (if (!((p1.getD p2.toNat (⟨#[]⟩ : ByteArray)).toList == x19.1.1.toList)) = true then
          (κ false)
         else
          (if (decide ((0 : Int) ≤ p2) && decide (p2 < (p0.length : Int))) = true then
           (if ((x19.1.2.length : Int) != (((p0.getD p2.toNat ((⟨#[]⟩ : ByteArray), ([] : List (ByteArray × Int)))).2).length : Int)) = true then
            (κ false)
           else
            (L4_3 k κ p0 p1 p2 (0 : Int) p3 x19.1.1 x19.1.2 x19.2.2 fun v21 =>
            F24v1 k x19.1.1 (⟨#[110, 111, 32, 111, 110, 101]⟩ : ByteArray) v21.2 fun x22 =>
            if (x22.1 != (-1 : Int)) = true then
             (κ false)
            else
             (if (x22.2.1 != (0 : Int)) = true then
              (κ false)
             else
              (L4_2 k κ p0 p1 (IntKind.wrap .i64 (p2 + (1 : Int))) p3 x22.2.2 K))))
          else
           (none)))
        else
         (none))
       else
        (none)))
     else
      (none)))
   else
    (none))
  else
   (K (p2, p4))
def L4_2_s : List SC := [.one .undef, .one .undef, .one .undef, .one .undef, .one .undef, .one (.list (.pair .str (.list (.pair .str (.int .i64)))) (.own true false)), .one (.ref 24 0), .one .undef, .one (.list .str (.own false false)), .one (.int .i64), .one .undef, .one .undef, .one .undef, .one .undef, .one .undef, .one .undef, .one .undef, .one .undef, .one .undef, .one .undef, .one .undef, .one .undef, .one .undef, .one .undef, .tup [.one (.ref 24 0), .one (.int .i64)], .one .undef, .one .undef, .one .undef, .one .undef, .one .undef, .one .undef, .one .undef, .one .undef, .one .undef, .one .undef, .one .undef, .one .undef, .one .undef, .one .undef, .one .undef, .one .undef, .one .undef, .one .undef, .one .undef, .one .undef, .one .undef, .one .undef, .one .undef, .one .undef, .one .undef, .one .undef, .one .undef, .one .undef, .one .undef, .one .undef, .one .undef, .one .undef, .one .undef, .one .undef, .one .undef, .one .undef, .one .undef, .one .undef, .one .undef, .one .undef, .one .undef, .one .undef, .one .undef, .one .undef, .one .undef, .one .undef, .one .undef, .one .undef, .one .undef, .one .undef, .one .undef, .one .undef, .one .undef, .one .undef, .one .undef, .one .undef, .one .undef, .one .undef, .one .undef, .one .undef, .one .undef, .one .undef, .one .undef, .one .undef, .one .undef, .one .undef, .one .undef, .one .undef, .one .undef, .one .undef, .one .undef, .one .undef, .one .undef, .one .undef, .one .undef, .one .undef, .one .undef, .one .undef, .one .undef, .one .undef, .one .undef, .one .undef, .one .undef, .one .undef, .one .undef, .one .undef, .one .undef, .one .undef, .one .undef, .one .undef, .one .undef, .one .undef, .one .undef, .one .undef, .one .undef, .one .undef, .one .undef, .one .undef, .one .undef, .one .undef, .one .undef, .one .undef, .one .undef, .one .undef, .one .undef, .one .undef, .one .undef, .one .undef, .one .undef, .one .undef, .one .undef, .one .undef, .one .undef, .one .undef, .one .undef, .one .undef, .one .undef, .one .undef, .one .undef, .one .undef, .one .undef, .one .undef, .one .undef, .one .undef, .one .undef, .one .undef, .one .undef, .one .undef, .one .undef, .one .undef, .one .undef, .one .undef, .one .undef, .one .undef, .one .undef, .one .undef, .one .undef, .one .undef, .one .undef, .one .undef, .one .undef, .one .undef, .one .undef, .one .undef, .one .undef, .one .undef, .one .undef, .one .undef]
def L4_2_b : List (List SC) := [[], [], [], [], [], [], [], [], [], [], [], [], [], [], [], [], [], [], [], [], [], [], [], [], [.one (.list (.pair .str (.list (.pair .str (.int .i64)))) (.own false false))], [], [], [], [], [], [], [], [], [], [], [], [], [], [], [], [], [], [], [], [], [], [], [], [], [], [], [], [], [], [], [], [], [], [], [], [], [], [], [], [], [], [], [], [], [], [], [], [], [], [], [], [], [], [], [], [], [], [], [], [], [], [], [], [], [], [], [], [], [], [], [], [], [], [], [], [], [], [], [], [], [], [], [], [], [], [], [], [], [], [], [], [], [], [], [], [], [], [], [], [], [], [], [], [], [], [], [], [], [], [], [], [], [], [], [], [], [], [], [], [], [], [], [], [], [], [], [], [], [], [], [], [], [], [], [], [], [], [], [], [], [], [], [], [], [], [], [], []]
def L4_2_m (k : Nat) (κ : Res → Option Res) (lf : LoopF) : LoopF := fun p σ K => if pathEq p [true, true, true, true, true, true, true, false, true, false] = true then (if okSt 173 L4_2_s L4_2_b σ = true then L4_2 k (fun x => κ ((.bool x, []) : Res)) (listOf (.pair .str (.list (.pair .str (.int .i64)))) (nth σ.slots 5)) (listOf .str (nth σ.slots 8)) (intOf (nth σ.slots 9)) (intOf (nth (aggOf (nth σ.slots 24)) 1)) (listOf (.pair .str (.list (.pair .str (.int .i64)))) (nth (nthB σ.boxes 24) 0)) (fun v => K (.exit 0) ⟨173, [.undef, .undef, .undef, .undef, .undef, .list (.pair .str (.list (.pair .str (.int .i64)))) (listOf (.pair .str (.list (.pair .str (.int .i64)))) (nth σ.slots 5)) (.own true false), .ref 24 0, .undef, .list .str (listOf .str (nth σ.slots 8)) (.own false false), .int .i64 v.1, .undef, .undef, .undef, .undef, .undef, .undef, .undef, .undef, .undef, .undef, .undef, .undef, .undef, .undef, .tup [.ref 24 0, .int .i64 (intOf (nth (aggOf (nth σ.slots 24)) 1))], .undef, .undef, .undef, .undef, .undef, .undef, .undef, .undef, .undef, .undef, .undef, .undef, .undef, .undef, .undef, .undef, .undef, .undef, .undef, .undef, .undef, .undef, .undef, .undef, .undef, .undef, .undef, .undef, .undef, .undef, .undef, .undef, .undef, .undef, .undef, .undef, .undef, .undef, .undef, .undef, .undef, .undef, .undef, .undef, .undef, .undef, .undef, .undef, .undef, .undef, .undef, .undef, .undef, .undef, .undef, .undef, .undef, .undef, .undef, .undef, .undef, .undef, .undef, .undef, .undef, .undef, .undef, .undef, .undef, .undef, .undef, .undef, .undef, .undef, .undef, .undef, .undef, .undef, .undef, .undef, .undef, .undef, .undef, .undef, .undef, .undef, .undef, .undef, .undef, .undef, .undef, .undef, .undef, .undef, .undef, .undef, .undef, .undef, .undef, .undef, .undef, .undef, .undef, .undef, .undef, .undef, .undef, .undef, .undef, .undef, .undef, .undef, .undef, .undef, .undef, .undef, .undef, .undef, .undef, .undef, .undef, .undef, .undef, .undef, .undef, .undef, .undef, .undef, .undef, .undef, .undef, .undef, .undef, .undef, .undef, .undef, .undef, .undef, .undef, .undef, .undef, .undef, .undef, .undef, .undef, .undef, .undef, .undef], [[], [], [], [], [], [], [], [], [], [], [], [], [], [], [], [], [], [], [], [], [], [], [], [], [.list (.pair .str (.list (.pair .str (.int .i64)))) v.2 (.own false false)], [], [], [], [], [], [], [], [], [], [], [], [], [], [], [], [], [], [], [], [], [], [], [], [], [], [], [], [], [], [], [], [], [], [], [], [], [], [], [], [], [], [], [], [], [], [], [], [], [], [], [], [], [], [], [], [], [], [], [], [], [], [], [], [], [], [], [], [], [], [], [], [], [], [], [], [], [], [], [], [], [], [], [], [], [], [], [], [], [], [], [], [], [], [], [], [], [], [], [], [], [], [], [], [], [], [], [], [], [], [], [], [], [], [], [], [], [], [], [], [], [], [], [], [], [], [], [], [], [], [], [], [], [], [], [], [], [], [], [], [], [], [], [], [], [], [], [], []]⟩) else lf p σ K) else lf p σ K
theorem L4_2_d (k : Nat) (κ : Res → Option Res) (h : ∀ (p0 : (List (ByteArray × (List (ByteArray × Int))))) (p1 : (List ByteArray)) (p2 : Int) (p3 : Int) (p4 : (List (ByteArray × (List (ByteArray × Int))))) (K : Cont), (ev Try.prog cfg k).loop 4 0 κ [true, true, true, true, true, true, true, false, true, false] ⟨173, [.undef, .undef, .undef, .undef, .undef, .list (.pair .str (.list (.pair .str (.int .i64)))) p0 (.own true false), .ref 24 0, .undef, .list .str p1 (.own false false), .int .i64 p2, .undef, .undef, .undef, .undef, .undef, .undef, .undef, .undef, .undef, .undef, .undef, .undef, .undef, .undef, .tup [.ref 24 0, .int .i64 p3], .undef, .undef, .undef, .undef, .undef, .undef, .undef, .undef, .undef, .undef, .undef, .undef, .undef, .undef, .undef, .undef, .undef, .undef, .undef, .undef, .undef, .undef, .undef, .undef, .undef, .undef, .undef, .undef, .undef, .undef, .undef, .undef, .undef, .undef, .undef, .undef, .undef, .undef, .undef, .undef, .undef, .undef, .undef, .undef, .undef, .undef, .undef, .undef, .undef, .undef, .undef, .undef, .undef, .undef, .undef, .undef, .undef, .undef, .undef, .undef, .undef, .undef, .undef, .undef, .undef, .undef, .undef, .undef, .undef, .undef, .undef, .undef, .undef, .undef, .undef, .undef, .undef, .undef, .undef, .undef, .undef, .undef, .undef, .undef, .undef, .undef, .undef, .undef, .undef, .undef, .undef, .undef, .undef, .undef, .undef, .undef, .undef, .undef, .undef, .undef, .undef, .undef, .undef, .undef, .undef, .undef, .undef, .undef, .undef, .undef, .undef, .undef, .undef, .undef, .undef, .undef, .undef, .undef, .undef, .undef, .undef, .undef, .undef, .undef, .undef, .undef, .undef, .undef, .undef, .undef, .undef, .undef, .undef, .undef, .undef, .undef, .undef, .undef, .undef, .undef, .undef, .undef, .undef, .undef, .undef, .undef, .undef, .undef], [[], [], [], [], [], [], [], [], [], [], [], [], [], [], [], [], [], [], [], [], [], [], [], [], [.list (.pair .str (.list (.pair .str (.int .i64)))) p4 (.own false false)], [], [], [], [], [], [], [], [], [], [], [], [], [], [], [], [], [], [], [], [], [], [], [], [], [], [], [], [], [], [], [], [], [], [], [], [], [], [], [], [], [], [], [], [], [], [], [], [], [], [], [], [], [], [], [], [], [], [], [], [], [], [], [], [], [], [], [], [], [], [], [], [], [], [], [], [], [], [], [], [], [], [], [], [], [], [], [], [], [], [], [], [], [], [], [], [], [], [], [], [], [], [], [], [], [], [], [], [], [], [], [], [], [], [], [], [], [], [], [], [], [], [], [], [], [], [], [], [], [], [], [], [], [], [], [], [], [], [], [], [], [], [], [], [], [], [], [], []]⟩ K = L4_2 k (fun x => κ ((.bool x, []) : Res)) p0 p1 p2 p3 p4 (fun v => K (.exit 0) ⟨173, [.undef, .undef, .undef, .undef, .undef, .list (.pair .str (.list (.pair .str (.int .i64)))) p0 (.own true false), .ref 24 0, .undef, .list .str p1 (.own false false), .int .i64 v.1, .undef, .undef, .undef, .undef, .undef, .undef, .undef, .undef, .undef, .undef, .undef, .undef, .undef, .undef, .tup [.ref 24 0, .int .i64 p3], .undef, .undef, .undef, .undef, .undef, .undef, .undef, .undef, .undef, .undef, .undef, .undef, .undef, .undef, .undef, .undef, .undef, .undef, .undef, .undef, .undef, .undef, .undef, .undef, .undef, .undef, .undef, .undef, .undef, .undef, .undef, .undef, .undef, .undef, .undef, .undef, .undef, .undef, .undef, .undef, .undef, .undef, .undef, .undef, .undef, .undef, .undef, .undef, .undef, .undef, .undef, .undef, .undef, .undef, .undef, .undef, .undef, .undef, .undef, .undef, .undef, .undef, .undef, .undef, .undef, .undef, .undef, .undef, .undef, .undef, .undef, .undef, .undef, .undef, .undef, .undef, .undef, .undef, .undef, .undef, .undef, .undef, .undef, .undef, .undef, .undef, .undef, .undef, .undef, .undef, .undef, .undef, .undef, .undef, .undef, .undef, .undef, .undef, .undef, .undef, .undef, .undef, .undef, .undef, .undef, .undef, .undef, .undef, .undef, .undef, .undef, .undef, .undef, .undef, .undef, .undef, .undef, .undef, .undef, .undef, .undef, .undef, .undef, .undef, .undef, .undef, .undef, .undef, .undef, .undef, .undef, .undef, .undef, .undef, .undef, .undef, .undef, .undef, .undef, .undef, .undef, .undef, .undef, .undef, .undef, .undef, .undef, .undef], [[], [], [], [], [], [], [], [], [], [], [], [], [], [], [], [], [], [], [], [], [], [], [], [], [.list (.pair .str (.list (.pair .str (.int .i64)))) v.2 (.own false false)], [], [], [], [], [], [], [], [], [], [], [], [], [], [], [], [], [], [], [], [], [], [], [], [], [], [], [], [], [], [], [], [], [], [], [], [], [], [], [], [], [], [], [], [], [], [], [], [], [], [], [], [], [], [], [], [], [], [], [], [], [], [], [], [], [], [], [], [], [], [], [], [], [], [], [], [], [], [], [], [], [], [], [], [], [], [], [], [], [], [], [], [], [], [], [], [], [], [], [], [], [], [], [], [], [], [], [], [], [], [], [], [], [], [], [], [], [], [], [], [], [], [], [], [], [], [], [], [], [], [], [], [], [], [], [], [], [], [], [], [], [], [], [], [], [], [], [], []]⟩)) : L4_2_m k κ ((ev Try.prog cfg k).loop 4 0 κ) = (ev Try.prog cfg k).loop 4 0 κ := by
  funext p σ K
  unfold L4_2_m
  split
  · rename_i hp
    split
    · rename_i hs
      have e : mkSt 173 L4_2_s L4_2_b σ = ⟨173, [.undef, .undef, .undef, .undef, .undef, .list (.pair .str (.list (.pair .str (.int .i64)))) (listOf (.pair .str (.list (.pair .str (.int .i64)))) (nth σ.slots 5)) (.own true false), .ref 24 0, .undef, .list .str (listOf .str (nth σ.slots 8)) (.own false false), .int .i64 (intOf (nth σ.slots 9)), .undef, .undef, .undef, .undef, .undef, .undef, .undef, .undef, .undef, .undef, .undef, .undef, .undef, .undef, .tup [.ref 24 0, .int .i64 (intOf (nth (aggOf (nth σ.slots 24)) 1))], .undef, .undef, .undef, .undef, .undef, .undef, .undef, .undef, .undef, .undef, .undef, .undef, .undef, .undef, .undef, .undef, .undef, .undef, .undef, .undef, .undef, .undef, .undef, .undef, .undef, .undef, .undef, .undef, .undef, .undef, .undef, .undef, .undef, .undef, .undef, .undef, .undef, .undef, .undef, .undef, .undef, .undef, .undef, .undef, .undef, .undef, .undef, .undef, .undef, .undef, .undef, .undef, .undef, .undef, .undef, .undef, .undef, .undef, .undef, .undef, .undef, .undef, .undef, .undef, .undef, .undef, .undef, .undef, .undef, .undef, .undef, .undef, .undef, .undef, .undef, .undef, .undef, .undef, .undef, .undef, .undef, .undef, .undef, .undef, .undef, .undef, .undef, .undef, .undef, .undef, .undef, .undef, .undef, .undef, .undef, .undef, .undef, .undef, .undef, .undef, .undef, .undef, .undef, .undef, .undef, .undef, .undef, .undef, .undef, .undef, .undef, .undef, .undef, .undef, .undef, .undef, .undef, .undef, .undef, .undef, .undef, .undef, .undef, .undef, .undef, .undef, .undef, .undef, .undef, .undef, .undef, .undef, .undef, .undef, .undef, .undef, .undef, .undef, .undef, .undef, .undef, .undef, .undef, .undef, .undef, .undef, .undef, .undef], [[], [], [], [], [], [], [], [], [], [], [], [], [], [], [], [], [], [], [], [], [], [], [], [], [.list (.pair .str (.list (.pair .str (.int .i64)))) (listOf (.pair .str (.list (.pair .str (.int .i64)))) (nth (nthB σ.boxes 24) 0)) (.own false false)], [], [], [], [], [], [], [], [], [], [], [], [], [], [], [], [], [], [], [], [], [], [], [], [], [], [], [], [], [], [], [], [], [], [], [], [], [], [], [], [], [], [], [], [], [], [], [], [], [], [], [], [], [], [], [], [], [], [], [], [], [], [], [], [], [], [], [], [], [], [], [], [], [], [], [], [], [], [], [], [], [], [], [], [], [], [], [], [], [], [], [], [], [], [], [], [], [], [], [], [], [], [], [], [], [], [], [], [], [], [], [], [], [], [], [], [], [], [], [], [], [], [], [], [], [], [], [], [], [], [], [], [], [], [], [], [], [], [], [], [], [], [], [], [], [], [], [], []]⟩ := by kernel_rfl
      rw [pathEq_eq hp]
      exact (h (listOf (.pair .str (.list (.pair .str (.int .i64)))) (nth σ.slots 5)) (listOf .str (nth σ.slots 8)) (intOf (nth σ.slots 9)) (intOf (nth (aggOf (nth σ.slots 24)) 1)) (listOf (.pair .str (.list (.pair .str (.int .i64)))) (nth (nthB σ.boxes 24) 0)) K).symm.trans (congrArg (fun s => (ev Try.prog cfg k).loop 4 0 κ [true, true, true, true, true, true, true, false, true, false] s K) (e.symm.trans (okSt_eq hs).symm))
    · rfl
  · rfl
theorem L4_2_ev : ∀ (k : Nat) (κ : Res → Option Res) (p0 : (List (ByteArray × (List (ByteArray × Int))))) (p1 : (List ByteArray)) (p2 : Int) (p3 : Int) (p4 : (List (ByteArray × (List (ByteArray × Int))))) (K : Cont), (ev Try.prog cfg k).loop 4 0 κ [true, true, true, true, true, true, true, false, true, false] ⟨173, [.undef, .undef, .undef, .undef, .undef, .list (.pair .str (.list (.pair .str (.int .i64)))) p0 (.own true false), .ref 24 0, .undef, .list .str p1 (.own false false), .int .i64 p2, .undef, .undef, .undef, .undef, .undef, .undef, .undef, .undef, .undef, .undef, .undef, .undef, .undef, .undef, .tup [.ref 24 0, .int .i64 p3], .undef, .undef, .undef, .undef, .undef, .undef, .undef, .undef, .undef, .undef, .undef, .undef, .undef, .undef, .undef, .undef, .undef, .undef, .undef, .undef, .undef, .undef, .undef, .undef, .undef, .undef, .undef, .undef, .undef, .undef, .undef, .undef, .undef, .undef, .undef, .undef, .undef, .undef, .undef, .undef, .undef, .undef, .undef, .undef, .undef, .undef, .undef, .undef, .undef, .undef, .undef, .undef, .undef, .undef, .undef, .undef, .undef, .undef, .undef, .undef, .undef, .undef, .undef, .undef, .undef, .undef, .undef, .undef, .undef, .undef, .undef, .undef, .undef, .undef, .undef, .undef, .undef, .undef, .undef, .undef, .undef, .undef, .undef, .undef, .undef, .undef, .undef, .undef, .undef, .undef, .undef, .undef, .undef, .undef, .undef, .undef, .undef, .undef, .undef, .undef, .undef, .undef, .undef, .undef, .undef, .undef, .undef, .undef, .undef, .undef, .undef, .undef, .undef, .undef, .undef, .undef, .undef, .undef, .undef, .undef, .undef, .undef, .undef, .undef, .undef, .undef, .undef, .undef, .undef, .undef, .undef, .undef, .undef, .undef, .undef, .undef, .undef, .undef, .undef, .undef, .undef, .undef, .undef, .undef, .undef, .undef, .undef, .undef], [[], [], [], [], [], [], [], [], [], [], [], [], [], [], [], [], [], [], [], [], [], [], [], [], [.list (.pair .str (.list (.pair .str (.int .i64)))) p4 (.own false false)], [], [], [], [], [], [], [], [], [], [], [], [], [], [], [], [], [], [], [], [], [], [], [], [], [], [], [], [], [], [], [], [], [], [], [], [], [], [], [], [], [], [], [], [], [], [], [], [], [], [], [], [], [], [], [], [], [], [], [], [], [], [], [], [], [], [], [], [], [], [], [], [], [], [], [], [], [], [], [], [], [], [], [], [], [], [], [], [], [], [], [], [], [], [], [], [], [], [], [], [], [], [], [], [], [], [], [], [], [], [], [], [], [], [], [], [], [], [], [], [], [], [], [], [], [], [], [], [], [], [], [], [], [], [], [], [], [], [], [], [], [], [], [], [], [], [], [], []]⟩ K = L4_2 k (fun x => κ ((.bool x, []) : Res)) p0 p1 p2 p3 p4 (fun v => K (.exit 0) ⟨173, [.undef, .undef, .undef, .undef, .undef, .list (.pair .str (.list (.pair .str (.int .i64)))) p0 (.own true false), .ref 24 0, .undef, .list .str p1 (.own false false), .int .i64 v.1, .undef, .undef, .undef, .undef, .undef, .undef, .undef, .undef, .undef, .undef, .undef, .undef, .undef, .undef, .tup [.ref 24 0, .int .i64 p3], .undef, .undef, .undef, .undef, .undef, .undef, .undef, .undef, .undef, .undef, .undef, .undef, .undef, .undef, .undef, .undef, .undef, .undef, .undef, .undef, .undef, .undef, .undef, .undef, .undef, .undef, .undef, .undef, .undef, .undef, .undef, .undef, .undef, .undef, .undef, .undef, .undef, .undef, .undef, .undef, .undef, .undef, .undef, .undef, .undef, .undef, .undef, .undef, .undef, .undef, .undef, .undef, .undef, .undef, .undef, .undef, .undef, .undef, .undef, .undef, .undef, .undef, .undef, .undef, .undef, .undef, .undef, .undef, .undef, .undef, .undef, .undef, .undef, .undef, .undef, .undef, .undef, .undef, .undef, .undef, .undef, .undef, .undef, .undef, .undef, .undef, .undef, .undef, .undef, .undef, .undef, .undef, .undef, .undef, .undef, .undef, .undef, .undef, .undef, .undef, .undef, .undef, .undef, .undef, .undef, .undef, .undef, .undef, .undef, .undef, .undef, .undef, .undef, .undef, .undef, .undef, .undef, .undef, .undef, .undef, .undef, .undef, .undef, .undef, .undef, .undef, .undef, .undef, .undef, .undef, .undef, .undef, .undef, .undef, .undef, .undef, .undef, .undef, .undef, .undef, .undef, .undef, .undef, .undef, .undef, .undef, .undef, .undef], [[], [], [], [], [], [], [], [], [], [], [], [], [], [], [], [], [], [], [], [], [], [], [], [], [.list (.pair .str (.list (.pair .str (.int .i64)))) v.2 (.own false false)], [], [], [], [], [], [], [], [], [], [], [], [], [], [], [], [], [], [], [], [], [], [], [], [], [], [], [], [], [], [], [], [], [], [], [], [], [], [], [], [], [], [], [], [], [], [], [], [], [], [], [], [], [], [], [], [], [], [], [], [], [], [], [], [], [], [], [], [], [], [], [], [], [], [], [], [], [], [], [], [], [], [], [], [], [], [], [], [], [], [], [], [], [], [], [], [], [], [], [], [], [], [], [], [], [], [], [], [], [], [], [], [], [], [], [], [], [], [], [], [], [], [], [], [], [], [], [], [], [], [], [], [], [], [], [], [], [], [], [], [], [], [], [], [], [], [], [], []]⟩) := by
  intro k κ
  induction k with
  | zero => intro p0 p1 p2 p3 p4 K; rfl
  | succ k ih =>
    intro p0 p1 p2 p3 p4 K
    rw [ev_loop, ← F23_d k (F23_ev k), ← F24v1_d k (F24v1_ev k), ← L4_2_d k κ ih, ← L4_3_d k κ (L4_3_ev k κ)]
    kernel_rfl
def L4_1 : Nat → (Bool → Option Res) → (List (ByteArray × (List (ByteArray × Int)))) → (List ByteArray) → Int → Int → Int → ByteArray → (List (ByteArray × Int)) → (Int → Option Res) → Option Res
  | 0, _, _, _, _, _, _, _, _, _ => none
  | k + 1, κ, p0, p1, p2, p3, p4, p5, p6, K =>
  if decide (p3 < (p6.length : Int)) = true then
   (if (decide ((0 : Int) ≤ p3) && decide (p3 < (p6.length : Int))) = true then
    (F24 k p5 ((p6.getD p3.toNat ((⟨#[]⟩ : ByteArray), (0 : Int))).1) fun x8 =>
    if (decide ((0 : Int) ≤ p3) && decide (p3 < (p6.length : Int))) = true then
     (if (decide ((0 : Int) ≤ p2) && decide (p2 < (p0.length : Int))) = true then
      (if (decide ((0 : Int) ≤ p3) && decide (p3 < (((p0.getD p2.toNat ((⟨#[]⟩ : ByteArray), ([] : List (ByteArray × Int)))).2).length : Int))) = true then
       (if (!(((p6.getD p3.toNat ((⟨#[]⟩ : ByteArray), (0 : Int))).1 == (((p0.getD p2.toNat ((⟨#[]⟩ : ByteArray), ([] : List (ByteArray × Int)))).2).getD p3.toNat ((⟨#[]⟩ : ByteArray), (0 : Int))).1) && (((p6.getD p3.toNat ((⟨#[]⟩ : ByteArray), (0 : Int))).2) == ((((p0.getD p2.toNat ((⟨#[]⟩ : ByteArray), ([] : List (ByteArray × Int)))).2).getD p3.toNat ((⟨#[]⟩ : ByteArray), (0 : Int))).2)))) = true then
        (κ false)
       else
        (if (x8.1 != p3) = true then
         (κ false)
        else
         (if (decide ((0 : Int) ≤ p3) && decide (p3 < (p6.length : Int))) = true then
          (if (x8.2 != ((p6.getD p3.toNat ((⟨#[]⟩ : ByteArray), (0 : Int))).2)) = true then
           (κ false)
          else
           (L4_1 k κ p0 p1 p2 (IntKind.wrap .i64 (p3 + (1 : Int))) p4 p5 p6 K))
         else
          (none))))
      else
       (none))
     else
      (none))
    else
     (none))
   else
    (none))
  else
   (K p3)
def L4_1_s : List SC := [.one .undef, .one .undef, .one .undef, .one .undef, .one .undef, .one (.list (.pair .str (.list (.pair .str (.int .i64)))) (.own true false)), .one .nilp, .one .undef, .one (.list .str (.own false false)), .one (.int .i64), .one (.ref 10 0), .one .undef, .one (.int .i64), .one .undef, .one .undef, .one .undef, .one .undef, .one .undef, .one .undef, .one .undef, .one .undef, .one .undef, .one .undef, .one .undef, .tup [.one .nilp, .one (.int .i64)], .one .undef, .one .undef, .one .undef, .one .undef, .one .undef, .one .undef, .one .undef, .one .undef, .one .undef, .one .undef, .one .undef, .one .undef, .one .undef, .one .undef, .one .undef, .one .undef, .one .undef, .one .undef, .one .undef, .one .undef, .one .undef, .one .undef, .one .undef, .one .undef, .one .undef, .one .undef, .one .undef, .one .undef, .one .undef, .one .undef, .one .undef, .one .undef, .one .undef, .one .undef, .one .undef, .one .undef, .one .undef, .one .undef, .one .undef, .one .undef, .one .undef, .one .undef, .one .undef, .one .undef, .one .undef, .one .undef, .one .undef, .one .undef, .one .undef, .one .undef, .one .undef, .one .undef, .one .undef, .one .undef, .one .undef, .one .undef, .one .undef, .one .undef, .one .undef, .one .undef, .one .undef, .one .undef, .one .undef, .one .undef, .one .undef, .one .undef, .one .undef, .one .undef, .one .undef, .one .undef, .one .undef, .one .undef, .one .undef, .one .undef, .one .undef, .one .undef, .one .undef, .one .undef, .one .undef, .one .undef, .one .undef, .one .undef, .one .undef, .one .undef, .one .undef, .one .undef, .one .undef, .one .undef, .one .undef, .one .undef, .one .undef, .one .undef, .one .undef, .one .undef, .one .undef, .one .undef, .one .undef, .one .undef, .one .undef, .one .undef, .one .undef, .one .undef, .one .undef, .one .undef, .one .undef, .one .undef, .one .undef, .one .undef, .one .undef, .one .undef, .one .undef, .one .undef, .one .undef, .one .undef, .one .undef, .one .undef, .one .undef, .one .undef, .one .undef, .one .undef, .one .undef, .one .undef, .one .undef, .one .undef, .one .undef, .one .undef, .one .undef, .one .undef, .one .undef, .one .undef, .one .undef, .one .undef, .one .undef, .one .undef, .one .undef, .one .undef, .one .undef, .one .undef, .one .undef, .one .undef, .one .undef, .one .undef, .one .undef, .one .undef, .one .undef, .one .undef, .one .undef, .one .undef]
def L4_1_b : List (List SC) := [[], [], [], [], [], [], [], [], [], [], [.one .str, .one (.list (.pair .str (.int .i64)) .no)], [], [], [], [], [], [], [], [], [], [], [], [], [], [], [], [], [], [], [], [], [], [], [], [], [], [], [], [], [], [], [], [], [], [], [], [], [], [], [], [], [], [], [], [], [], [], [], [], [], [], [], [], [], [], [], [], [], [], [], [], [], [], [], [], [], [], [], [], [], [], [], [], [], [], [], [], [], [], [], [], [], [], [], [], [], [], [], [], [], [], [], [], [], [], [], [], [], [], [], [], [], [], [], [], [], [], [], [], [], [], [], [], [], [], [], [], [], [], [], [], [], [], [], [], [], [], [], [], [], [], [], [], [], [], [], [], [], [], [], [], [], [], [], [], [], [], [], [], [], [], [], [], [], [], [], [], [], [], [], [], [], []]
def L4_1_m (k : Nat) (κ : Res → Option Res) (lf : LoopF) : LoopF := fun p σ K => if pathEq p [true, true, true, true, true, true, true, false, true, false, false, true, false, false, true, true, false, true, false] = true then (if okSt 173 L4_1_s L4_1_b σ = true then L4_1 k (fun x => κ ((.bool x, []) : Res)) (listOf (.pair .str (.list (.pair .str (.int .i64)))) (nth σ.slots 5)) (listOf .str (nth σ.slots 8)) (intOf (nth σ.slots 9)) (intOf (nth σ.slots 12)) (intOf (nth (aggOf (nth σ.slots 24)) 1)) (stringOf (nth (nthB σ.boxes 10) 0)) (listOf (.pair .str (.int .i64)) (nth (nthB σ.boxes 10) 1)) (fun v => K (.exit 2) ⟨173, [.undef, .undef, .undef, .undef, .undef, .list (.pair .str (.list (.pair .str (.int .i64)))) (listOf (.pair .str (.list (.pair .str (.int .i64)))) (nth σ.slots 5)) (.own true false), .nilp, .undef, .list .str (listOf .str (nth σ.slots 8)) (.own false false), .int .i64 (intOf (nth σ.slots 9)), .ref 10 0, .undef, .int .i64 v, .undef, .undef, .undef, .undef, .undef, .undef, .undef, .undef, .undef, .undef, .undef, .tup [.nilp, .int .i64 (intOf (nth (aggOf (nth σ.slots 24)) 1))], .undef, .undef, .undef, .undef, .undef, .undef, .undef, .undef, .undef, .undef, .undef, .undef, .undef, .undef, .undef, .undef, .undef, .undef, .undef, .undef, .undef, .undef, .undef, .undef, .undef, .undef, .undef, .undef, .undef, .undef, .undef, .undef, .undef, .undef, .undef, .undef, .undef, .undef, .undef, .undef, .undef, .undef, .undef, .undef, .undef, .undef, .undef, .undef, .undef, .undef, .undef, .undef, .undef, .undef, .undef, .undef, .undef, .undef, .undef, .undef, .undef, .undef, .undef, .undef, .undef, .undef, .undef, .undef, .undef, .undef, .undef, .undef, .undef, .undef, .undef, .undef, .undef, .undef, .undef, .undef, .undef, .undef, .undef, .undef, .undef, .undef, .undef, .undef, .undef, .undef, .undef, .undef, .undef, .undef, .undef, .undef, .undef, .undef, .undef, .undef, .undef, .undef, .undef, .undef, .undef, .undef, .undef, .undef, .undef, .undef, .undef, .undef, .undef, .undef, .undef, .undef, .undef, .undef, .undef, .undef, .undef, .undef, .undef, .undef, .undef, .undef, .undef, .undef, .undef, .undef, .undef, .undef, .undef, .undef, .undef, .undef, .undef, .undef, .undef, .undef, .undef, .undef, .undef, .undef, .undef, .undef, .undef, .undef], [[], [], [], [], [], [], [], [], [], [], [.str (stringOf (nth (nthB σ.boxes 10) 0)), .list (.pair .str (.int .i64)) (listOf (.pair .str (.int .i64)) (nth (nthB σ.boxes 10) 1)) .no], [], [], [], [], [], [], [], [], [], [], [], [], [], [], [], [], [], [], [], [], [], [], [], [], [], [], [], [], [], [], [], [], [], [], [], [], [], [], [], [], [], [], [], [], [], [], [], [], [], [], [], [], [], [], [], [], [], [], [], [], [], [], [], [], [], [], [], [], [], [], [], [], [], [], [], [], [], [], [], [], [], [], [], [], [], [], [], [], [], [], [], [], [], [], [], [], [], [], [], [], [], [], [], [], [], [], [], [], [], [], [], [], [], [], [], [], [], [], [], [], [], [], [], [], [], [], [], [], [], [], [], [], [], [], [], [], [], [], [], [], [], [], [], [], [], [], [], [], [], [], [], [], [], [], [], [], [], [], [], [], [], []]⟩) else lf p σ K) else lf p σ K
theorem L4_1_d (k : Nat) (κ : Res → Option Res) (h : ∀ (p0 : (List (ByteArray × (List (ByteArray × Int))))) (p1 : (List ByteArray)) (p2 : Int) (p3 : Int) (p4 : Int) (p5 : ByteArray) (p6 : (List (ByteArray × Int))) (K : Cont), (ev Try.prog cfg k).loop 4 0 κ [true, true, true, true, true, true, true, false, true, false, false, true, false, false, true, true, false, true, false] ⟨173, [.undef, .undef, .undef, .undef, .undef, .list (.pair .str (.list (.pair .str (.int .i64)))) p0 (.own true false), .nilp, .undef, .list .str p1 (.own false false), .int .i64 p2, .ref 10 0, .undef, .int .i64 p3, .undef, .undef, .undef, .undef, .undef, .undef, .undef, .undef, .undef, .undef, .undef, .tup [.nilp, .int .i64 p4], .undef, .undef, .undef, .undef, .undef, .undef, .undef, .undef, .undef, .undef, .undef, .undef, .undef, .undef, .undef, .undef, .undef, .undef, .undef, .undef, .undef, .undef, .undef, .undef, .undef, .undef, .undef, .undef, .undef, .undef, .undef, .undef, .undef, .undef, .undef, .undef, .undef, .undef, .undef, .undef, .undef, .undef, .undef, .undef, .undef, .undef, .undef, .undef, .undef, .undef, .undef, .undef, .undef, .undef, .undef, .undef, .undef, .undef, .undef, .undef, .undef, .undef, .undef, .undef, .undef, .undef, .undef, .undef, .undef, .undef, .undef, .undef, .undef, .undef, .undef, .undef, .undef, .undef, .undef, .undef, .undef, .undef, .undef, .undef, .undef, .undef, .undef, .undef, .undef, .undef, .undef, .undef, .undef, .undef, .undef, .undef, .undef, .undef, .undef, .undef, .undef, .undef, .undef, .undef, .undef, .undef, .undef, .undef, .undef, .undef, .undef, .undef, .undef, .undef, .undef, .undef, .undef, .undef, .undef, .undef, .undef, .undef, .undef, .undef, .undef, .undef, .undef, .undef, .undef, .undef, .undef, .undef, .undef, .undef, .undef, .undef, .undef, .undef, .undef, .undef, .undef, .undef, .undef, .undef, .undef, .undef, .undef, .undef], [[], [], [], [], [], [], [], [], [], [], [.str p5, .list (.pair .str (.int .i64)) p6 .no], [], [], [], [], [], [], [], [], [], [], [], [], [], [], [], [], [], [], [], [], [], [], [], [], [], [], [], [], [], [], [], [], [], [], [], [], [], [], [], [], [], [], [], [], [], [], [], [], [], [], [], [], [], [], [], [], [], [], [], [], [], [], [], [], [], [], [], [], [], [], [], [], [], [], [], [], [], [], [], [], [], [], [], [], [], [], [], [], [], [], [], [], [], [], [], [], [], [], [], [], [], [], [], [], [], [], [], [], [], [], [], [], [], [], [], [], [], [], [], [], [], [], [], [], [], [], [], [], [], [], [], [], [], [], [], [], [], [], [], [], [], [], [], [], [], [], [], [], [], [], [], [], [], [], [], [], [], [], [], [], [], []]⟩ K = L4_1 k (fun x => κ ((.bool x, []) : Res)) p0 p1 p2 p3 p4 p5 p6 (fun v => K (.exit 2) ⟨173, [.undef, .undef, .undef, .undef, .undef, .list (.pair .str (.list (.pair .str (.int .i64)))) p0 (.own true false), .nilp, .undef, .list .str p1 (.own false false), .int .i64 p2, .ref 10 0, .undef, .int .i64 v, .undef, .undef, .undef, .undef, .undef, .undef, .undef, .undef, .undef, .undef, .undef, .tup [.nilp, .int .i64 p4], .undef, .undef, .undef, .undef, .undef, .undef, .undef, .undef, .undef, .undef, .undef, .undef, .undef, .undef, .undef, .undef, .undef, .undef, .undef, .undef, .undef, .undef, .undef, .undef, .undef, .undef, .undef, .undef, .undef, .undef, .undef, .undef, .undef, .undef, .undef, .undef, .undef, .undef, .undef, .undef, .undef, .undef, .undef, .undef, .undef, .undef, .undef, .undef, .undef, .undef, .undef, .undef, .undef, .undef, .undef, .undef, .undef, .undef, .undef, .undef, .undef, .undef, .undef, .undef, .undef, .undef, .undef, .undef, .undef, .undef, .undef, .undef, .undef, .undef, .undef, .undef, .undef, .undef, .undef, .undef, .undef, .undef, .undef, .undef, .undef, .undef, .undef, .undef, .undef, .undef, .undef, .undef, .undef, .undef, .undef, .undef, .undef, .undef, .undef, .undef, .undef, .undef, .undef, .undef, .undef, .undef, .undef, .undef, .undef, .undef, .undef, .undef, .undef, .undef, .undef, .undef, .undef, .undef, .undef, .undef, .undef, .undef, .undef, .undef, .undef, .undef, .undef, .undef, .undef, .undef, .undef, .undef, .undef, .undef, .undef, .undef, .undef, .undef, .undef, .undef, .undef, .undef, .undef, .undef, .undef, .undef, .undef, .undef], [[], [], [], [], [], [], [], [], [], [], [.str p5, .list (.pair .str (.int .i64)) p6 .no], [], [], [], [], [], [], [], [], [], [], [], [], [], [], [], [], [], [], [], [], [], [], [], [], [], [], [], [], [], [], [], [], [], [], [], [], [], [], [], [], [], [], [], [], [], [], [], [], [], [], [], [], [], [], [], [], [], [], [], [], [], [], [], [], [], [], [], [], [], [], [], [], [], [], [], [], [], [], [], [], [], [], [], [], [], [], [], [], [], [], [], [], [], [], [], [], [], [], [], [], [], [], [], [], [], [], [], [], [], [], [], [], [], [], [], [], [], [], [], [], [], [], [], [], [], [], [], [], [], [], [], [], [], [], [], [], [], [], [], [], [], [], [], [], [], [], [], [], [], [], [], [], [], [], [], [], [], [], [], [], [], []]⟩)) : L4_1_m k κ ((ev Try.prog cfg k).loop 4 0 κ) = (ev Try.prog cfg k).loop 4 0 κ := by
  funext p σ K
  unfold L4_1_m
  split
  · rename_i hp
    split
    · rename_i hs
      have e : mkSt 173 L4_1_s L4_1_b σ = ⟨173, [.undef, .undef, .undef, .undef, .undef, .list (.pair .str (.list (.pair .str (.int .i64)))) (listOf (.pair .str (.list (.pair .str (.int .i64)))) (nth σ.slots 5)) (.own true false), .nilp, .undef, .list .str (listOf .str (nth σ.slots 8)) (.own false false), .int .i64 (intOf (nth σ.slots 9)), .ref 10 0, .undef, .int .i64 (intOf (nth σ.slots 12)), .undef, .undef, .undef, .undef, .undef, .undef, .undef, .undef, .undef, .undef, .undef, .tup [.nilp, .int .i64 (intOf (nth (aggOf (nth σ.slots 24)) 1))], .undef, .undef, .undef, .undef, .undef, .undef, .undef, .undef, .undef, .undef, .undef, .undef, .undef, .undef, .undef, .undef, .undef, .undef, .undef, .undef, .undef, .undef, .undef, .undef, .undef, .undef, .undef, .undef, .undef, .undef, .undef, .undef, .undef, .undef, .undef, .undef, .undef, .undef, .undef, .undef, .undef, .undef, .undef, .undef, .undef, .undef, .undef, .undef, .undef, .undef, .undef, .undef, .undef, .undef, .undef, .undef, .undef, .undef, .undef, .undef, .undef, .undef, .undef, .undef, .undef, .undef, .undef, .undef, .undef, .undef, .undef, .undef, .undef, .undef, .undef, .undef, .undef, .undef, .undef, .undef, .undef, .undef, .undef, .undef, .undef, .undef, .undef, .undef, .undef, .undef, .undef, .undef, .undef, .undef, .undef, .undef, .undef, .undef, .undef, .undef, .undef, .undef, .undef, .undef, .undef, .undef, .undef, .undef, .undef, .undef, .undef, .undef, .undef, .undef, .undef, .undef, .undef, .undef, .undef, .undef, .undef, .undef, .undef, .undef, .undef, .undef, .undef, .undef, .undef, .undef, .undef, .undef, .undef, .undef, .undef, .undef, .undef, .undef, .undef, .undef, .undef, .undef, .undef, .undef, .undef, .undef, .undef, .undef], [[], [], [], [], [], [], [], [], [], [], [.str (stringOf (nth (nthB σ.boxes 10) 0)), .list (.pair .str (.int .i64)) (listOf (.pair .str (.int .i64)) (nth (nthB σ.boxes 10) 1)) .no], [], [], [], [], [], [], [], [], [], [], [], [], [], [], [], [], [], [], [], [], [], [], [], [], [], [], [], [], [], [], [], [], [], [], [], [], [], [], [], [], [], [], [], [], [], [], [], [], [], [], [], [], [], [], [], [], [], [], [], [], [], [], [], [], [], [], [], [], [], [], [], [], [], [], [], [], [], [], [], [], [], [], [], [], [], [], [], [], [], [], [], [], [], [], [], [], [], [], [], [], [], [], [], [], [], [], [], [], [], [], [], [], [], [], [], [], [], [], [], [], [], [], [], [], [], [], [], [], [], [], [], [], [], [], [], [], [], [], [], [], [], [], [], [], [], [], [], [], [], [], [], [], [], [], [], [], [], [], [], [], [], []]⟩ := by kernel_rfl
      rw [pathEq_eq hp]
      exact (h (listOf (.pair .str (.list (.pair .str (.int .i64)))) (nth σ.slots 5)) (listOf .str (nth σ.slots 8)) (intOf (nth σ.slots 9)) (intOf (nth σ.slots 12)) (intOf (nth (aggOf (nth σ.slots 24)) 1)) (stringOf (nth (nthB σ.boxes 10) 0)) (listOf (.pair .str (.int .i64)) (nth (nthB σ.boxes 10) 1)) K).symm.trans (congrArg (fun s => (ev Try.prog cfg k).loop 4 0 κ [true, true, true, true, true, true, true, false, true, false, false, true, false, false, true, true, false, true, false] s K) (e.symm.trans (okSt_eq hs).symm))
    · rfl
  · rfl
theorem L4_1_ev : ∀ (k : Nat) (κ : Res → Option Res) (p0 : (List (ByteArray × (List (ByteArray × Int))))) (p1 : (List ByteArray)) (p2 : Int) (p3 : Int) (p4 : Int) (p5 : ByteArray) (p6 : (List (ByteArray × Int))) (K : Cont), (ev Try.prog cfg k).loop 4 0 κ [true, true, true, true, true, true, true, false, true, false, false, true, false, false, true, true, false, true, false] ⟨173, [.undef, .undef, .undef, .undef, .undef, .list (.pair .str (.list (.pair .str (.int .i64)))) p0 (.own true false), .nilp, .undef, .list .str p1 (.own false false), .int .i64 p2, .ref 10 0, .undef, .int .i64 p3, .undef, .undef, .undef, .undef, .undef, .undef, .undef, .undef, .undef, .undef, .undef, .tup [.nilp, .int .i64 p4], .undef, .undef, .undef, .undef, .undef, .undef, .undef, .undef, .undef, .undef, .undef, .undef, .undef, .undef, .undef, .undef, .undef, .undef, .undef, .undef, .undef, .undef, .undef, .undef, .undef, .undef, .undef, .undef, .undef, .undef, .undef, .undef, .undef, .undef, .undef, .undef, .undef, .undef, .undef, .undef, .undef, .undef, .undef, .undef, .undef, .undef, .undef, .undef, .undef, .undef, .undef, .undef, .undef, .undef, .undef, .undef, .undef, .undef, .undef, .undef, .undef, .undef, .undef, .undef, .undef, .undef, .undef, .undef, .undef, .undef, .undef, .undef, .undef, .undef, .undef, .undef, .undef, .undef, .undef, .undef, .undef, .undef, .undef, .undef, .undef, .undef, .undef, .undef, .undef, .undef, .undef, .undef, .undef, .undef, .undef, .undef, .undef, .undef, .undef, .undef, .undef, .undef, .undef, .undef, .undef, .undef, .undef, .undef, .undef, .undef, .undef, .undef, .undef, .undef, .undef, .undef, .undef, .undef, .undef, .undef, .undef, .undef, .undef, .undef, .undef, .undef, .undef, .undef, .undef, .undef, .undef, .undef, .undef, .undef, .undef, .undef, .undef, .undef, .undef, .undef, .undef, .undef, .undef, .undef, .undef, .undef, .undef, .undef], [[], [], [], [], [], [], [], [], [], [], [.str p5, .list (.pair .str (.int .i64)) p6 .no], [], [], [], [], [], [], [], [], [], [], [], [], [], [], [], [], [], [], [], [], [], [], [], [], [], [], [], [], [], [], [], [], [], [], [], [], [], [], [], [], [], [], [], [], [], [], [], [], [], [], [], [], [], [], [], [], [], [], [], [], [], [], [], [], [], [], [], [], [], [], [], [], [], [], [], [], [], [], [], [], [], [], [], [], [], [], [], [], [], [], [], [], [], [], [], [], [], [], [], [], [], [], [], [], [], [], [], [], [], [], [], [], [], [], [], [], [], [], [], [], [], [], [], [], [], [], [], [], [], [], [], [], [], [], [], [], [], [], [], [], [], [], [], [], [], [], [], [], [], [], [], [], [], [], [], [], [], [], [], [], [], []]⟩ K = L4_1 k (fun x => κ ((.bool x, []) : Res)) p0 p1 p2 p3 p4 p5 p6 (fun v => K (.exit 2) ⟨173, [.undef, .undef, .undef, .undef, .undef, .list (.pair .str (.list (.pair .str (.int .i64)))) p0 (.own true false), .nilp, .undef, .list .str p1 (.own false false), .int .i64 p2, .ref 10 0, .undef, .int .i64 v, .undef, .undef, .undef, .undef, .undef, .undef, .undef, .undef, .undef, .undef, .undef, .tup [.nilp, .int .i64 p4], .undef, .undef, .undef, .undef, .undef, .undef, .undef, .undef, .undef, .undef, .undef, .undef, .undef, .undef, .undef, .undef, .undef, .undef, .undef, .undef, .undef, .undef, .undef, .undef, .undef, .undef, .undef, .undef, .undef, .undef, .undef, .undef, .undef, .undef, .undef, .undef, .undef, .undef, .undef, .undef, .undef, .undef, .undef, .undef, .undef, .undef, .undef, .undef, .undef, .undef, .undef, .undef, .undef, .undef, .undef, .undef, .undef, .undef, .undef, .undef, .undef, .undef, .undef, .undef, .undef, .undef, .undef, .undef, .undef, .undef, .undef, .undef, .undef, .undef, .undef, .undef, .undef, .undef, .undef, .undef, .undef, .undef, .undef, .undef, .undef, .undef, .undef, .undef, .undef, .undef, .undef, .undef, .undef, .undef, .undef, .undef, .undef, .undef, .undef, .undef, .undef, .undef, .undef, .undef, .undef, .undef, .undef, .undef, .undef, .undef, .undef, .undef, .undef, .undef, .undef, .undef, .undef, .undef, .undef, .undef, .undef, .undef, .undef, .undef, .undef, .undef, .undef, .undef, .undef, .undef, .undef, .undef, .undef, .undef, .undef, .undef, .undef, .undef, .undef, .undef, .undef, .undef, .undef, .undef, .undef, .undef, .undef, .undef], [[], [], [], [], [], [], [], [], [], [], [.str p5, .list (.pair .str (.int .i64)) p6 .no], [], [], [], [], [], [], [], [], [], [], [], [], [], [], [], [], [], [], [], [], [], [], [], [], [], [], [], [], [], [], [], [], [], [], [], [], [], [], [], [], [], [], [], [], [], [], [], [], [], [], [], [], [], [], [], [], [], [], [], [], [], [], [], [], [], [], [], [], [], [], [], [], [], [], [], [], [], [], [], [], [], [], [], [], [], [], [], [], [], [], [], [], [], [], [], [], [], [], [], [], [], [], [], [], [], [], [], [], [], [], [], [], [], [], [], [], [], [], [], [], [], [], [], [], [], [], [], [], [], [], [], [], [], [], [], [], [], [], [], [], [], [], [], [], [], [], [], [], [], [], [], [], [], [], [], [], [], [], [], [], [], []]⟩) := by
  intro k κ
  induction k with
  | zero => intro p0 p1 p2 p3 p4 p5 p6 K; rfl
  | succ k ih =>
    intro p0 p1 p2 p3 p4 p5 p6 K
    rw [ev_loop, ← F24_d k (F24_ev k), ← L4_1_d k κ ih]
    kernel_rfl
def L4_0 : Nat → (Bool → Option Res) → (List (ByteArray × (List (ByteArray × Int)))) → (List ByteArray) → Int → Int → (Int → Option Res) → Option Res
  | 0, _, _, _, _, _, _ => none
  | k + 1, κ, p0, p1, p2, p3, K =>
  if decide (p2 < (p0.length : Int)) = true then
   (if (decide ((0 : Int) ≤ p2) && decide (p2 < (p0.length : Int))) = true then
    (F23v1 k ((p0.getD p2.toNat ((⟨#[]⟩ : ByteArray), ([] : List (ByteArray × Int)))).1) fun x7 =>
    if (!x7.2) = true then
     (κ false)
    else
     (if (decide ((0 : Int) ≤ p2) && decide (p2 < (p0.length : Int))) = true then
      (if (!(x7.1.1.toList == ((p0.getD p2.toNat ((⟨#[]⟩ : ByteArray), ([] : List (ByteArray × Int)))).1).toList)) = true then
       (κ false)
      else
       (if (decide ((0 : Int) ≤ p2) && decide (p2 < (p1.length : Int))) = true then
        (if decide (p2.toNat < p1.length) = true then
         (if (!((p1.getD p2.toNat (⟨#[]⟩ : ByteArray)).toList == x7.1.1.toList)) = true then
          (κ false)
         else
          (if (decide ((0 : Int) ≤ p2) && decide (p2 < (p0.length : Int))) = true then
           (if ((x7.1.2.length : Int) != (((p0.getD p2.toNat ((⟨#[]⟩ : ByteArray), ([] : List (ByteArray × Int)))).2).length : Int)) = true then
            (κ false)
           else
            (L4_1 k κ p0 p1 p2 (0 : Int) p3 x7.1.1 x7.1.2 fun v9 =>
            F24 k x7.1.1 (⟨#[110, 111, 32, 111, 110, 101]⟩ : ByteArray) fun x10 =>
            if (x10.1 != (-1 : Int)) = true then
             (κ false)
            else
             (if (x10.2 != (0 : Int)) = true then
              (κ false)
             else
              (L4_0 k κ p0 p1 (IntKind.wrap .i64 (p2 + (1 : Int))) p3 K))))
          else
           (none)))
        else
         (none))
       else
        (none)))
     else
      (none)))
   else
    (none))
  else
   (K p2)
def L4_0_s : List SC := [.one .undef, .one .undef, .one .undef, .one .undef, .one .undef, .one (.list (.pair .str (.list (.pair .str (.int .i64)))) (.own true false)), .one .nilp, .one .undef, .one (.list .str (.own false false)), .one (.int .i64), .one .undef, .one .undef, .one .undef, .one .undef, .one .undef, .one .undef, .one .undef, .one .undef, .one .undef, .one .undef, .one .undef, .one .undef, .one .undef, .one .undef, .tup [.one .nilp, .one (.int .i64)], .one .undef, .one .undef, .one .undef, .one .undef, .one .undef, .one .undef, .one .undef, .one .undef, .one .undef, .one .undef, .one .undef, .one .undef, .one .undef, .one .undef, .one .undef, .one .undef, .one .undef, .one .undef, .one .undef, .one .undef, .one .undef, .one .undef, .one .undef, .one .undef, .one .undef, .one .undef, .one .undef, .one .undef, .one .undef, .one .undef, .one .undef, .one .undef, .one .undef, .one .undef, .one .undef, .one .undef, .one .undef, .one .undef, .one .undef, .one .undef, .one .undef, .one .undef, .one .undef, .one .undef, .one .undef, .one .undef, .one .undef, .one .undef, .one .undef, .one .undef, .one .undef, .one .undef, .one .undef, .one .undef, .one .undef, .one .undef, .one .undef, .one .undef, .one .undef, .one .undef, .one .undef, .one .undef, .one .undef, .one .undef, .one .undef, .one .undef, .one .undef, .one .undef, .one .undef, .one .undef, .one .undef, .one .undef, .one .undef, .one .undef, .one .undef, .one .undef, .one .undef, .one .undef, .one .undef, .one .undef, .one .undef, .one .undef, .one .undef, .one .undef, .one .undef, .one .undef, .one .undef, .one .undef, .one .undef, .one .undef, .one .undef, .one .undef, .one .undef, .one .undef, .one .undef, .one .undef, .one .undef, .one .undef, .one .undef, .one .undef, .one .undef, .one .undef, .one .undef, .one .undef, .one .undef, .one .undef, .one .undef, .one .undef, .one .undef, .one .undef, .one .undef, .one .undef, .one .undef, .one .undef, .one .undef, .one .undef, .one .undef, .one .undef, .one .undef, .one .undef, .one .undef, .one .undef, .one .undef, .one .undef, .one .undef, .one .undef, .one .undef, .one .undef, .one .undef, .one .undef, .one .undef, .one .undef, .one .undef, .one .undef, .one .undef, .one .undef, .one .undef, .one .undef, .one .undef, .one .undef, .one .undef, .one .undef, .one .undef, .one .undef, .one .undef, .one .undef, .one .undef, .one .undef]
def L4_0_b : List (List SC) := [[], [], [], [], [], [], [], [], [], [], [], [], [], [], [], [], [], [], [], [], [], [], [], [], [], [], [], [], [], [], [], [], [], [], [], [], [], [], [], [], [], [], [], [], [], [], [], [], [], [], [], [], [], [], [], [], [], [], [], [], [], [], [], [], [], [], [], [], [], [], [], [], [], [], [], [], [], [], [], [], [], [], [], [], [], [], [], [], [], [], [], [], [], [], [], [], [], [], [], [], [], [], [], [], [], [], [], [], [], [], [], [], [], [], [], [], [], [], [], [], [], [], [], [], [], [], [], [], [], [], [], [], [], [], [], [], [], [], [], [], [], [], [], [], [], [], [], [], [], [], [], [], [], [], [], [], [], [], [], [], [], [], [], [], [], [], [], [], [], [], [], [], []]
def L4_0_m (k : Nat) (κ : Res → Option Res) (lf : LoopF) : LoopF := fun p σ K => if pathEq p [true, true, true, true, true, true, true, false, true, false] = true then (if okSt 173 L4_0_s L4_0_b σ = true then L4_0 k (fun x => κ ((.bool x, []) : Res)) (listOf (.pair .str (.list (.pair .str (.int .i64)))) (nth σ.slots 5)) (listOf .str (nth σ.slots 8)) (intOf (nth σ.slots 9)) (intOf (nth (aggOf (nth σ.slots 24)) 1)) (fun v => K (.exit 0) ⟨173, [.undef, .undef, .undef, .undef, .undef, .list (.pair .str (.list (.pair .str (.int .i64)))) (listOf (.pair .str (.list (.pair .str (.int .i64)))) (nth σ.slots 5)) (.own true false), .nilp, .undef, .list .str (listOf .str (nth σ.slots 8)) (.own false false), .int .i64 v, .undef, .undef, .undef, .undef, .undef, .undef, .undef, .undef, .undef, .undef, .undef, .undef, .undef, .undef, .tup [.nilp, .int .i64 (intOf (nth (aggOf (nth σ.slots 24)) 1))], .undef, .undef, .undef, .undef, .undef, .undef, .undef, .undef, .undef, .undef, .undef, .undef, .undef, .undef, .undef, .undef, .undef, .undef, .undef, .undef, .undef, .undef, .undef, .undef, .undef, .undef, .undef, .undef, .undef, .undef, .undef, .undef, .undef, .undef, .undef, .undef, .undef, .undef, .undef, .undef, .undef, .undef, .undef, .undef, .undef, .undef, .undef, .undef, .undef, .undef, .undef, .undef, .undef, .undef, .undef, .undef, .undef, .undef, .undef, .undef, .undef, .undef, .undef, .undef, .undef, .undef, .undef, .undef, .undef, .undef, .undef, .undef, .undef, .undef, .undef, .undef, .undef, .undef, .undef, .undef, .undef, .undef, .undef, .undef, .undef, .undef, .undef, .undef, .undef, .undef, .undef, .undef, .undef, .undef, .undef, .undef, .undef, .undef, .undef, .undef, .undef, .undef, .undef, .undef, .undef, .undef, .undef, .undef, .undef, .undef, .undef, .undef, .undef, .undef, .undef, .undef, .undef, .undef, .undef, .undef, .undef, .undef, .undef, .undef, .undef, .undef, .undef, .undef, .undef, .undef, .undef, .undef, .undef, .undef, .undef, .undef, .undef, .undef, .undef, .undef, .undef, .undef, .undef, .undef, .undef, .undef, .undef, .undef], [[], [], [], [], [], [], [], [], [], [], [], [], [], [], [], [], [], [], [], [], [], [], [], [], [], [], [], [], [], [], [], [], [], [], [], [], [], [], [], [], [], [], [], [], [], [], [], [], [], [], [], [], [], [], [], [], [], [], [], [], [], [], [], [], [], [], [], [], [], [], [], [], [], [], [], [], [], [], [], [], [], [], [], [], [], [], [], [], [], [], [], [], [], [], [], [], [], [], [], [], [], [], [], [], [], [], [], [], [], [], [], [], [], [], [], [], [], [], [], [], [], [], [], [], [], [], [], [], [], [], [], [], [], [], [], [], [], [], [], [], [], [], [], [], [], [], [], [], [], [], [], [], [], [], [], [], [], [], [], [], [], [], [], [], [], [], [], [], [], [], [], [], []]⟩) else lf p σ K) else lf p σ K
theorem L4_0_d (k : Nat) (κ : Res → Option Res) (h : ∀ (p0 : (List (ByteArray × (List (ByteArray × Int))))) (p1 : (List ByteArray)) (p2 : Int) (p3 : Int) (K : Cont), (ev Try.prog cfg k).loop 4 0 κ [true, true, true, true, true, true, true, false, true, false] ⟨173, [.undef, .undef, .undef, .undef, .undef, .list (.pair .str (.list (.pair .str (.int .i64)))) p0 (.own true false), .nilp, .undef, .list .str p1 (.own false false), .int .i64 p2, .undef, .undef, .undef, .undef, .undef, .undef, .undef, .undef, .undef, .undef, .undef, .undef, .undef, .undef, .tup [.nilp, .int .i64 p3], .undef, .undef, .undef, .undef, .undef, .undef, .undef, .undef, .undef, .undef, .undef, .undef, .undef, .undef, .undef, .undef, .undef, .undef, .undef, .undef, .undef, .undef, .undef, .undef, .undef, .undef, .undef, .undef, .undef, .undef, .undef, .undef, .undef, .undef, .undef, .undef, .undef, .undef, .undef, .undef, .undef, .undef, .undef, .undef, .undef, .undef, .undef, .undef, .undef, .undef, .undef, .undef, .undef, .undef, .undef, .undef, .undef, .undef, .undef, .undef, .undef, .undef, .undef, .undef, .undef, .undef, .undef, .undef, .undef, .undef, .undef, .undef, .undef, .undef, .undef, .undef, .undef, .undef, .undef, .undef, .undef, .undef, .undef, .undef, .undef, .undef, .undef, .undef, .undef, .undef, .undef, .undef, .undef, .undef, .undef, .undef, .undef, .undef, .undef, .undef, .undef, .undef, .undef, .undef, .undef, .undef, .undef, .undef, .undef, .undef, .undef, .undef, .undef, .undef, .undef, .undef, .undef, .undef, .undef, .undef, .undef, .undef, .undef, .undef, .undef, .undef, .undef, .undef, .undef, .undef, .undef, .undef, .undef, .undef, .undef, .undef, .undef, .undef, .undef, .undef, .undef, .undef, .undef, .undef, .undef, .undef, .undef, .undef], [[], [], [], [], [], [], [], [], [], [], [], [], [], [], [], [], [], [], [], [], [], [], [], [], [], [], [], [], [], [], [], [], [], [], [], [], [], [], [], [], [], [], [], [], [], [], [], [], [], [], [], [], [], [], [], [], [], [], [], [], [], [], [], [], [], [], [], [], [], [], [], [], [], [], [], [], [], [], [], [], [], [], [], [], [], [], [], [], [], [], [], [], [], [], [], [], [], [], [], [], [], [], [], [], [], [], [], [], [], [], [], [], [], [], [], [], [], [], [], [], [], [], [], [], [], [], [], [], [], [], [], [], [], [], [], [], [], [], [], [], [], [], [], [], [], [], [], [], [], [], [], [], [], [], [], [], [], [], [], [], [], [], [], [], [], [], [], [], [], [], [], [], []]⟩ K = L4_0 k (fun x => κ ((.bool x, []) : Res)) p0 p1 p2 p3 (fun v => K (.exit 0) ⟨173, [.undef, .undef, .undef, .undef, .undef, .list (.pair .str (.list (.pair .str (.int .i64)))) p0 (.own true false), .nilp, .undef, .list .str p1 (.own false false), .int .i64 v, .undef, .undef, .undef, .undef, .undef, .undef, .undef, .undef, .undef, .undef, .undef, .undef, .undef, .undef, .tup [.nilp, .int .i64 p3], .undef, .undef, .undef, .undef, .undef, .undef, .undef, .undef, .undef, .undef, .undef, .undef, .undef, .undef, .undef, .undef, .undef, .undef, .undef, .undef, .undef, .undef, .undef, .undef, .undef, .undef, .undef, .undef, .undef, .undef, .undef, .undef, .undef, .undef, .undef, .undef, .undef, .undef, .undef, .undef, .undef, .undef, .undef, .undef, .undef, .undef, .undef, .undef, .undef, .undef, .undef, .undef, .undef, .undef, .undef, .undef, .undef, .undef, .undef, .undef, .undef, .undef, .undef, .undef, .undef, .undef, .undef, .undef, .undef, .undef, .undef, .undef, .undef, .undef, .undef, .undef, .undef, .undef, .undef, .undef, .undef, .undef, .undef, .undef, .undef, .undef, .undef, .undef, .undef, .undef, .undef, .undef, .undef, .undef, .undef, .undef, .undef, .undef, .undef, .undef, .undef, .undef, .undef, .undef, .undef, .undef, .undef, .undef, .undef, .undef, .undef, .undef, .undef, .undef, .undef, .undef, .undef, .undef, .undef, .undef, .undef, .undef, .undef, .undef, .undef, .undef, .undef, .undef, .undef, .undef, .undef, .undef, .undef, .undef, .undef, .undef, .undef, .undef, .undef, .undef, .undef, .undef, .undef, .undef, .undef, .undef, .undef, .undef], [[], [], [], [], [], [], [], [], [], [], [], [], [], [], [], [], [], [], [], [], [], [], [], [], [], [], [], [], [], [], [], [], [], [], [], [], [], [], [], [], [], [], [], [], [], [], [], [], [], [], [], [], [], [], [], [], [], [], [], [], [], [], [], [], [], [], [], [], [], [], [], [], [], [], [], [], [], [], [], [], [], [], [], [], [], [], [], [], [], [], [], [], [], [], [], [], [], [], [], [], [], [], [], [], [], [], [], [], [], [], [], [], [], [], [], [], [], [], [], [], [], [], [], [], [], [], [], [], [], [], [], [], [], [], [], [], [], [], [], [], [], [], [], [], [], [], [], [], [], [], [], [], [], [], [], [], [], [], [], [], [], [], [], [], [], [], [], [], [], [], [], [], []]⟩)) : L4_0_m k κ ((ev Try.prog cfg k).loop 4 0 κ) = (ev Try.prog cfg k).loop 4 0 κ := by
  funext p σ K
  unfold L4_0_m
  split
  · rename_i hp
    split
    · rename_i hs
      have e : mkSt 173 L4_0_s L4_0_b σ = ⟨173, [.undef, .undef, .undef, .undef, .undef, .list (.pair .str (.list (.pair .str (.int .i64)))) (listOf (.pair .str (.list (.pair .str (.int .i64)))) (nth σ.slots 5)) (.own true false), .nilp, .undef, .list .str (listOf .str (nth σ.slots 8)) (.own false false), .int .i64 (intOf (nth σ.slots 9)), .undef, .undef, .undef, .undef, .undef, .undef, .undef, .undef, .undef, .undef, .undef, .undef, .undef, .undef, .tup [.nilp, .int .i64 (intOf (nth (aggOf (nth σ.slots 24)) 1))], .undef, .undef, .undef, .undef, .undef, .undef, .undef, .undef, .undef, .undef, .undef, .undef, .undef, .undef, .undef, .undef, .undef, .undef, .undef, .undef, .undef, .undef, .undef, .undef, .undef, .undef, .undef, .undef, .undef, .undef, .undef, .undef, .undef, .undef, .undef, .undef, .undef, .undef, .undef, .undef, .undef, .undef, .undef, .undef, .undef, .undef, .undef, .undef, .undef, .undef, .undef, .undef, .undef, .undef, .undef, .undef, .undef, .undef, .undef, .undef, .undef, .undef, .undef, .undef, .undef, .undef, .undef, .undef, .undef, .undef, .undef, .undef, .undef, .undef, .undef, .undef, .undef, .undef, .undef, .undef, .undef, .undef, .undef, .undef, .undef, .undef, .undef, .undef, .undef, .undef, .undef, .undef, .undef, .undef, .undef, .undef, .undef, .undef, .undef, .undef, .undef, .undef, .undef, .undef, .undef, .undef, .undef, .undef, .undef, .undef, .undef, .undef, .undef, .undef, .undef, .undef, .undef, .undef, .undef, .undef, .undef, .undef, .undef, .undef, .undef, .undef, .undef, .undef, .undef, .undef, .undef, .undef, .undef, .undef, .undef, .undef, .undef, .undef, .undef, .undef, .undef, .undef, .undef, .undef, .undef, .undef, .undef, .undef], [[], [], [], [], [], [], [], [], [], [], [], [], [], [], [], [], [], [], [], [], [], [], [], [], [], [], [], [], [], [], [], [], [], [], [], [], [], [], [], [], [], [], [], [], [], [], [], [], [], [], [], [], [], [], [], [], [], [], [], [], [], [], [], [], [], [], [], [], [], [], [], [], [], [], [], [], [], [], [], [], [], [], [], [], [], [], [], [], [], [], [], [], [], [], [], [], [], [], [], [], [], [], [], [], [], [], [], [], [], [], [], [], [], [], [], [], [], [], [], [], [], [], [], [], [], [], [], [], [], [], [], [], [], [], [], [], [], [], [], [], [], [], [], [], [], [], [], [], [], [], [], [], [], [], [], [], [], [], [], [], [], [], [], [], [], [], [], [], [], [], [], [], []]⟩ := by kernel_rfl
      rw [pathEq_eq hp]
      exact (h (listOf (.pair .str (.list (.pair .str (.int .i64)))) (nth σ.slots 5)) (listOf .str (nth σ.slots 8)) (intOf (nth σ.slots 9)) (intOf (nth (aggOf (nth σ.slots 24)) 1)) K).symm.trans (congrArg (fun s => (ev Try.prog cfg k).loop 4 0 κ [true, true, true, true, true, true, true, false, true, false] s K) (e.symm.trans (okSt_eq hs).symm))
    · rfl
  · rfl
theorem L4_0_ev : ∀ (k : Nat) (κ : Res → Option Res) (p0 : (List (ByteArray × (List (ByteArray × Int))))) (p1 : (List ByteArray)) (p2 : Int) (p3 : Int) (K : Cont), (ev Try.prog cfg k).loop 4 0 κ [true, true, true, true, true, true, true, false, true, false] ⟨173, [.undef, .undef, .undef, .undef, .undef, .list (.pair .str (.list (.pair .str (.int .i64)))) p0 (.own true false), .nilp, .undef, .list .str p1 (.own false false), .int .i64 p2, .undef, .undef, .undef, .undef, .undef, .undef, .undef, .undef, .undef, .undef, .undef, .undef, .undef, .undef, .tup [.nilp, .int .i64 p3], .undef, .undef, .undef, .undef, .undef, .undef, .undef, .undef, .undef, .undef, .undef, .undef, .undef, .undef, .undef, .undef, .undef, .undef, .undef, .undef, .undef, .undef, .undef, .undef, .undef, .undef, .undef, .undef, .undef, .undef, .undef, .undef, .undef, .undef, .undef, .undef, .undef, .undef, .undef, .undef, .undef, .undef, .undef, .undef, .undef, .undef, .undef, .undef, .undef, .undef, .undef, .undef, .undef, .undef, .undef, .undef, .undef, .undef, .undef, .undef, .undef, .undef, .undef, .undef, .undef, .undef, .undef, .undef, .undef, .undef, .undef, .undef, .undef, .undef, .undef, .undef, .undef, .undef, .undef, .undef, .undef, .undef, .undef, .undef, .undef, .undef, .undef, .undef, .undef, .undef, .undef, .undef, .undef, .undef, .undef, .undef, .undef, .undef, .undef, .undef, .undef, .undef, .undef, .undef, .undef, .undef, .undef, .undef, .undef, .undef, .undef, .undef, .undef, .undef, .undef, .undef, .undef, .undef, .undef, .undef, .undef, .undef, .undef, .undef, .undef, .undef, .undef, .undef, .undef, .undef, .undef, .undef, .undef, .undef, .undef, .undef, .undef, .undef, .undef, .undef, .undef, .undef, .undef, .undef, .undef, .undef, .undef, .undef], [[], [], [], [], [], [], [], [], [], [], [], [], [], [], [], [], [], [], [], [], [], [], [], [], [], [], [], [], [], [], [], [], [], [], [], [], [], [], [], [], [], [], [], [], [], [], [], [], [], [], [], [], [], [], [], [], [], [], [], [], [], [], [], [], [], [], [], [], [], [], [], [], [], [], [], [], [], [], [], [], [], [], [], [], [], [], [], [], [], [], [], [], [], [], [], [], [], [], [], [], [], [], [], [], [], [], [], [], [], [], [], [], [], [], [], [], [], [], [], [], [], [], [], [], [], [], [], [], [], [], [], [], [], [], [], [], [], [], [], [], [], [], [], [], [], [], [], [], [], [], [], [], [], [], [], [], [], [], [], [], [], [], [], [], [], [], [], [], [], [], [], [], []]⟩ K = L4_0 k (fun x => κ ((.bool x, []) : Res)) p0 p1 p2 p3 (fun v => K (.exit 0) ⟨173, [.undef, .undef, .undef, .undef, .undef, .list (.pair .str (.list (.pair .str (.int .i64)))) p0 (.own true false), .nilp, .undef, .list .str p1 (.own false false), .int .i64 v, .undef, .undef, .undef, .undef, .undef, .undef, .undef, .undef, .undef, .undef, .undef, .undef, .undef, .undef, .tup [.nilp, .int .i64 p3], .undef, .undef, .undef, .undef, .undef, .undef, .undef, .undef, .undef, .undef, .undef, .undef, .undef, .undef, .undef, .undef, .undef, .undef, .undef, .undef, .undef, .undef, .undef, .undef, .undef, .undef, .undef, .undef, .undef, .undef, .undef, .undef, .undef, .undef, .undef, .undef, .undef, .undef, .undef, .undef, .undef, .undef, .undef, .undef, .undef, .undef, .undef, .undef, .undef, .undef, .undef, .undef, .undef, .undef, .undef, .undef, .undef, .undef, .undef, .undef, .undef, .undef, .undef, .undef, .undef, .undef, .undef, .undef, .undef, .undef, .undef, .undef, .undef, .undef, .undef, .undef, .undef, .undef, .undef, .undef, .undef, .undef, .undef, .undef, .undef, .undef, .undef, .undef, .undef, .undef, .undef, .undef, .undef, .undef, .undef, .undef, .undef, .undef, .undef, .undef, .undef, .undef, .undef, .undef, .undef, .undef, .undef, .undef, .undef, .undef, .undef, .undef, .undef, .undef, .undef, .undef, .undef, .undef, .undef, .undef, .undef, .undef, .undef, .undef, .undef, .undef, .undef, .undef, .undef, .undef, .undef, .undef, .undef, .undef, .undef, .undef, .undef, .undef, .undef, .undef, .undef, .undef, .undef, .undef, .undef, .undef, .undef, .undef], [[], [], [], [], [], [], [], [], [], [], [], [], [], [], [], [], [], [], [], [], [], [], [], [], [], [], [], [], [], [], [], [], [], [], [], [], [], [], [], [], [], [], [], [], [], [], [], [], [], [], [], [], [], [], [], [], [], [], [], [], [], [], [], [], [], [], [], [], [], [], [], [], [], [], [], [], [], [], [], [], [], [], [], [], [], [], [], [], [], [], [], [], [], [], [], [], [], [], [], [], [], [], [], [], [], [], [], [], [], [], [], [], [], [], [], [], [], [], [], [], [], [], [], [], [], [], [], [], [], [], [], [], [], [], [], [], [], [], [], [], [], [], [], [], [], [], [], [], [], [], [], [], [], [], [], [], [], [], [], [], [], [], [], [], [], [], [], [], [], [], [], [], []]⟩) := by
  intro k κ
  induction k with
  | zero => intro p0 p1 p2 p3 K; rfl
  | succ k ih =>
    intro p0 p1 p2 p3 K
    rw [ev_loop, ← F23v1_d k (F23v1_ev k), ← F24_d k (F24_ev k), ← L4_0_d k κ ih, ← L4_1_d k κ (L4_1_ev k κ)]
    kernel_rfl
/-- lamplighter/lamplighterlaw03.SchemaFinds -/
def F4 : Nat → (List (ByteArray × (List (ByteArray × Int)))) → Int → (Bool → Option Res) → Option Res
  | 0, _, _, _ => none
  | k + 1, a0, a1, κ =>
  F18 k a0 a1 fun x1 =>
  F19 k x1 (fun x2 =>
   F20 k x1 fun x3 =>
   if (x2 != x3) = true then
    (κ false)
   else
    (if (x2 != (0 : Int)) = true then
     (F15 k  fun x4 =>
     if x4 = true then
      (κ true)
     else
      (κ false))
    else
     (F21 k  fun x5 =>
     F22 k  fun x6 =>
     if (x6 != (x1.length : Int)) = true then
      (κ false)
     else
      (if ((x5.length : Int) != (x1.length : Int)) = true then
       (κ false)
      else
       (L4_0 k κ x1 x5 (0 : Int) x2 fun v11 =>
       F23v1 k (⟨#[110, 111, 32, 111, 110, 101]⟩ : ByteArray) fun x12 =>
       F15 k  fun x13 =>
       if x13 = true then
        (κ (!x12.2))
       else
        (κ false)))))) (fun x14 =>
   F20 k x1 fun x15 =>
   if (x14.1 != x15) = true then
    (κ false)
   else
    (if (x14.1 != (0 : Int)) = true then
     (F15 k  fun x16 =>
     if x16 = true then
      (κ false)
     else
      (κ false))
    else
     (F21v1 k x14.2 fun x17 =>
     F22v1 k x17.2 fun x18 =>
     if (x18.1 != (x1.length : Int)) = true then
      (κ false)
     else
      (if ((x17.1.length : Int) != (x1.length : Int)) = true then
       (κ false)
      else
       (L4_2 k κ x1 x17.1 (0 : Int) x14.1 x18.2 fun v23 =>
       F23 k (⟨#[110, 111, 32, 111, 110, 101]⟩ : ByteArray) v23.2 fun x24 =>
       F15 k  fun x25 =>
       if x25 = true then
        (κ (!x24.2.1))
       else
        (κ false))))))
def F4_s : List SC := [.one (.list (.pair .str (.list (.pair .str (.int .i64)))) .no), .one (.int .i64)]
def F4_b : List (List SC) := []
def F4_m (k : Nat) (cf : CallF) : CallF := fun f args lent κ => if Nat.beq f 4 = true then (if (okC F4_s args && okB F4_b lent) = true then F4 k (listOf (.pair .str (.list (.pair .str (.int .i64)))) (nth args 0)) (intOf (nth args 1)) (fun x => κ ((.bool x, []) : Res)) else cf f args lent κ) else cf f args lent κ
theorem F4_d (k : Nat) (h : ∀ (a0 : (List (ByteArray × (List (ByteArray × Int))))) (a1 : Int) (κ : Res → Option Res), (ev Try.prog cfg k).call 4 [.list (.pair .str (.list (.pair .str (.int .i64)))) a0 .no, .int .i64 a1] [] κ = F4 k a0 a1 (fun x => κ ((.bool x, []) : Res))) : F4_m k (ev Try.prog cfg k).call = (ev Try.prog cfg k).call := by
  funext f args lent κ
  unfold F4_m
  split
  · rename_i hp
    split
    · rename_i hs
      rw [Bool.and_eq_true] at hs
      have e : mkC F4_s 0 args = [.list (.pair .str (.list (.pair .str (.int .i64)))) (listOf (.pair .str (.list (.pair .str (.int .i64)))) (nth args 0)) .no, .int .i64 (intOf (nth args 1))] := by kernel_rfl
      have e' : mkB F4_b 0 lent = [] := by kernel_rfl
      obtain rfl := Nat.eq_of_beq_eq_true hp
      exact (h (listOf (.pair .str (.list (.pair .str (.int .i64)))) (nth args 0)) (intOf (nth args 1)) κ).symm.trans (cong2 (fun a l => (ev Try.prog cfg k).call 4 a l κ) (e.symm.trans (okC_eq hs.1).symm) (e'.symm.trans (okB_eq hs.2).symm))
    · rfl
  · rfl
theorem F4_ev : ∀ (k : Nat) (a0 : (List (ByteArray × (List (ByteArray × Int))))) (a1 : Int) (κ : Res → Option Res), (ev Try.prog cfg k).call 4 [.list (.pair .str (.list (.pair .str (.int .i64)))) a0 .no, .int .i64 a1] [] κ = F4 k a0 a1 (fun x => κ ((.bool x, []) : Res)) := by
  intro k
  induction k with
  | zero => intros; rfl
  | succ k ih =>
    intro a0 a1 κ
    refine (ev_call' Try.prog cfg k 4 0 _ _ κ (by rfl)).trans ?_
    rw [← F18_d k (F18_ev k), ← F19_d k (F19_ev k), ← F20_d k (F20_ev k), ← F15_d k (F15_ev k), ← F21_d k (F21_ev k), ← F22_d k (F22_ev k), ← F23v1_d k (F23v1_ev k), ← F24_d k (F24_ev k), ← F21v1_d k (F21v1_ev k), ← F22v1_d k (F22v1_ev k), ← F23_d k (F23_ev k), ← F24v1_d k (F24v1_ev k), ← L4_0_d k κ (L4_0_ev k κ), ← L4_2_d k κ (L4_2_ev k κ)]
    kernel_rfl
end Go.Proofs.Ytcnoaflojojfkac.SchF
