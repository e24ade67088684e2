/- The functions that 'lamplighter/lamplighterlaw13.TypingMade' reaches, over lists and numbers, and that the machine of values comes to them (printed by wip/vm/gen.py). No condition. -/
import Derived.Test.YtkfphlmbdppbfaaTyMA
namespace Go.Proofs.Ytkfphlmbdppbfaa.TyM
open Go Go.Proofs.Ytkfphlmbdppbfaa.Vm
set_option linter.unusedVariables false
set_option maxRecDepth 100000
def F138_B  (a0 : T1) (b0_0 : Int) (b0_1 : Int) (b0_2 : Int) (b0_3 : ByteArray) (b0_4 : Bool) (b0_5 : ByteArray) (b0_6 : ByteArray) (κ : Bool × Int × Int × Int × ByteArray × Bool × ByteArray × ByteArray → Option Res) : Option Res :=
  chk2 (κ ((a0.1.toList == b0_5.toList), (b0_0, (b0_1, (b0_2, (b0_3, (b0_4, (b0_5, b0_6))))))))
/-- lamplighter/typing.field$1 -/
def F138 : Nat → T1 → Int → Int → Int → ByteArray → Bool → ByteArray → ByteArray → (Bool × Int × Int × Int × ByteArray × Bool × ByteArray × ByteArray → Option Res) → Option Res
  | 0, _, _, _, _, _, _, _, _, _ => none
  | k + 1, a0, b0_0, b0_1, b0_2, b0_3, b0_4, b0_5, b0_6, κ => F138_B  a0 b0_0 b0_1 b0_2 b0_3 b0_4 b0_5 b0_6 κ
def F138_s : List SC := [.agg [.str, .list .str .no], .one (.ref 0 0)]
def F138_b : List (List SC) := [[.one (.int .i64), .one (.int .i64), .one (.int .i64), .one .str, .one .bool, .one .str, .one .str]]
def F138_m (g : T1 → Int → Int → Int → ByteArray → Bool → ByteArray → ByteArray → (Bool × Int × Int × Int × ByteArray × Bool × ByteArray × ByteArray → Option Res) → Option Res) (cf : CallF) : CallF := fun f args lent κ => match Nat.beq f 138 with
  | true => match okC F138_s args && okB F138_b lent with
    | true => g ((stringOf (nth (aggOf (nth args 0)) 0)), (listOf .str (nth (aggOf (nth args 0)) 1))) (intOf (nth (nthB lent 0) 0)) (intOf (nth (nthB lent 0) 1)) (intOf (nth (nthB lent 0) 2)) (stringOf (nth (nthB lent 0) 3)) (boolOf (nth (nthB lent 0) 4)) (stringOf (nth (nthB lent 0) 5)) (stringOf (nth (nthB lent 0) 6)) (fun x => κ ((.bool x.1, [[.int .i64 x.2.1, .int .i64 x.2.2.1, .int .i64 x.2.2.2.1, .str x.2.2.2.2.1, .bool x.2.2.2.2.2.1, .str x.2.2.2.2.2.2.1, .str x.2.2.2.2.2.2.2]]) : Res))
    | false => cf f args lent κ
  | false => cf f args lent κ
theorem F138_d (k : Nat) (h : ∀ (a0 : T1) (b0_0 : Int) (b0_1 : Int) (b0_2 : Int) (b0_3 : ByteArray) (b0_4 : Bool) (b0_5 : ByteArray) (b0_6 : ByteArray) (κ : Res → Option Res), (ev Try.prog cfg k).call 138 [.agg [.str a0.1, .list .str a0.2 .no], .ref 0 0] [[.int .i64 b0_0, .int .i64 b0_1, .int .i64 b0_2, .str b0_3, .bool b0_4, .str b0_5, .str b0_6]] κ = F138 k a0 b0_0 b0_1 b0_2 b0_3 b0_4 b0_5 b0_6 (fun x => κ ((.bool x.1, [[.int .i64 x.2.1, .int .i64 x.2.2.1, .int .i64 x.2.2.2.1, .str x.2.2.2.2.1, .bool x.2.2.2.2.2.1, .str x.2.2.2.2.2.2.1, .str x.2.2.2.2.2.2.2]]) : Res))) : F138_m (F138 k) (ev Try.prog cfg k).call = (ev Try.prog cfg k).call := by
  funext f args lent κ
  unfold F138_m
  split
  · rename_i hp
    split
    · rename_i hs
      rw [Bool.and_eq_true] at hs
      have e : mkC F138_s 0 args = [.agg [.str (stringOf (nth (aggOf (nth args 0)) 0)), .list .str (listOf .str (nth (aggOf (nth args 0)) 1)) .no], .ref 0 0] := by kernel_rfl
      have e' : mkB F138_b 0 lent = [[.int .i64 (intOf (nth (nthB lent 0) 0)), .int .i64 (intOf (nth (nthB lent 0) 1)), .int .i64 (intOf (nth (nthB lent 0) 2)), .str (stringOf (nth (nthB lent 0) 3)), .bool (boolOf (nth (nthB lent 0) 4)), .str (stringOf (nth (nthB lent 0) 5)), .str (stringOf (nth (nthB lent 0) 6))]] := by kernel_rfl
      obtain rfl := Nat.eq_of_beq_eq_true hp
      exact (h ((stringOf (nth (aggOf (nth args 0)) 0)), (listOf .str (nth (aggOf (nth args 0)) 1))) (intOf (nth (nthB lent 0) 0)) (intOf (nth (nthB lent 0) 1)) (intOf (nth (nthB lent 0) 2)) (stringOf (nth (nthB lent 0) 3)) (boolOf (nth (nthB lent 0) 4)) (stringOf (nth (nthB lent 0) 5)) (stringOf (nth (nthB lent 0) 6)) κ).symm.trans (cong2 (fun a l => (ev Try.prog cfg k).call 138 a l κ) (e.symm.trans (okC_eq hs.1).symm) (e'.symm.trans (okB_eq hs.2).symm))
    · rfl
  · rfl
theorem F138_k  (cf : CallF) (lf : LoopF) (a0 : T1) (b0_0 : Int) (b0_1 : Int) (b0_2 : Int) (b0_3 : ByteArray) (b0_4 : Bool) (b0_5 : ByteArray) (b0_6 : ByteArray) (κ : Res → Option Res) : evFn Try.prog cfg cf lf 138 [.agg [.str a0.1, .list .str a0.2 .no], .ref 0 0] [[.int .i64 b0_0, .int .i64 b0_1, .int .i64 b0_2, .str b0_3, .bool b0_4, .str b0_5, .str b0_6]] κ = F138_B  a0 b0_0 b0_1 b0_2 b0_3 b0_4 b0_5 b0_6 (fun x => κ ((.bool x.1, [[.int .i64 x.2.1, .int .i64 x.2.2.1, .int .i64 x.2.2.2.1, .str x.2.2.2.2.1, .bool x.2.2.2.2.2.1, .str x.2.2.2.2.2.2.1, .str x.2.2.2.2.2.2.2]]) : Res)) := by
  kernel_rfl
theorem F138_ev : ∀ (k : Nat) (a0 : T1) (b0_0 : Int) (b0_1 : Int) (b0_2 : Int) (b0_3 : ByteArray) (b0_4 : Bool) (b0_5 : ByteArray) (b0_6 : ByteArray) (κ : Res → Option Res), (ev Try.prog cfg k).call 138 [.agg [.str a0.1, .list .str a0.2 .no], .ref 0 0] [[.int .i64 b0_0, .int .i64 b0_1, .int .i64 b0_2, .str b0_3, .bool b0_4, .str b0_5, .str b0_6]] κ = F138 k a0 b0_0 b0_1 b0_2 b0_3 b0_4 b0_5 b0_6 (fun x => κ ((.bool x.1, [[.int .i64 x.2.1, .int .i64 x.2.2.1, .int .i64 x.2.2.2.1, .str x.2.2.2.2.1, .bool x.2.2.2.2.2.1, .str x.2.2.2.2.2.2.1, .str x.2.2.2.2.2.2.2]]) : Res)) := by
  intro k
  induction k with
  | zero => intros; rfl
  | succ k ih =>
    intro a0 b0_0 b0_1 b0_2 b0_3 b0_4 b0_5 b0_6 κ
    refine (ev_call' Try.prog cfg k 138 1 _ _ κ (by rfl)).trans ?_
    skip
    exact F138_k  _ _ a0 b0_0 b0_1 b0_2 b0_3 b0_4 b0_5 b0_6 κ
def L137_0_B (gF138 : tF138) (gL137_0 : tL137_0) (κ : Int × Int × Int × Int × ByteArray × Bool × ByteArray × ByteArray → Option Res) (p0 : T3) (p1 : Int) (p2 : Int) (p3 : Int) (p4 : Int) (p5 : Int) (p6 : ByteArray) (p7 : Bool) (p8 : ByteArray) (p9 : ByteArray) (K : Int × Int × Int × Int × ByteArray × Bool × ByteArray × ByteArray → Option Res) : Option Res :=
  chk1 (if decide (p2 < p1) = true then
    (if (true && (decide ((0 : Int) ≤ p2) && decide (p2 < (p0.length : Int)))) = true then
     (chk1 (gF138 (p0.getD p2.toNat ((⟨#[]⟩ : ByteArray), ([] : List ByteArray))) p3 p4 p5 p6 p7 p8 p9 fun x1 =>
      chk1 (if x1.1 = true then
        (κ (p2, (x1.2.1, (x1.2.2.1, (x1.2.2.2.1, (x1.2.2.2.2.1, (x1.2.2.2.2.2.1, (x1.2.2.2.2.2.2.1, x1.2.2.2.2.2.2.2))))))))
       else
        (chk1 (gL137_0 p0 p1 (IntKind.wrap .i64 (p2 + (1 : Int))) x1.2.1 x1.2.2.1 x1.2.2.2.1 x1.2.2.2.2.1 x1.2.2.2.2.2.1 x1.2.2.2.2.2.2.1 x1.2.2.2.2.2.2.2 K)))))
    else
     (none))
   else
    (K (p2, (p3, (p4, (p5, (p6, (p7, (p8, p9)))))))))
def L137_0 : Nat → (Int × Int × Int × Int × ByteArray × Bool × ByteArray × ByteArray → Option Res) → T3 → Int → Int → Int → Int → Int → ByteArray → Bool → ByteArray → ByteArray → (Int × Int × Int × Int × ByteArray × Bool × ByteArray × ByteArray → Option Res) → Option Res
  | 0, _, _, _, _, _, _, _, _, _, _, _, _ => none
  | k + 1, κ, p0, p1, p2, p3, p4, p5, p6, p7, p8, p9, K => L137_0_B (F138 k) (fun p0 p1 p2 p3 p4 p5 p6 p7 p8 p9 K => L137_0 k κ p0 p1 p2 p3 p4 p5 p6 p7 p8 p9 K) κ p0 p1 p2 p3 p4 p5 p6 p7 p8 p9 K
def L137_0_s : Tr SC := Tr.of (nthD (.one .undef) [.one (.list (.pair .str (.list .str)) .no), .fn 138 [.ref 19 0], .one .undef, .one .undef, .one .undef, .one .undef, .one .undef, .one (.int .i64), .one (.int .i64)]) 5
def L137_0_b : Tr (List SC) := Tr.of (nthD [] [[], [], [], [], [], [], [], [], [], [], [], [], [], [], [], [], [], [], [], [.one (.int .i64), .one (.int .i64), .one (.int .i64), .one .str, .one .bool, .one .str, .one .str]]) 5
def L137_0_m (g : T3 → Int → Int → Int → Int → Int → ByteArray → Bool → ByteArray → ByteArray → (Int × Int × Int × Int × ByteArray × Bool × ByteArray × ByteArray → Option Res) → Option Res) (lf : LoopF) : LoopF := fun p σ K => match pathEq p [true, false, true, false] with
  | true => match okSt 19 L137_0_s L137_0_b σ with
    | true => g (listOf (.pair .str (.list .str)) (Tr.val .undef σ.slots)) (intOf (Tr.val .undef (Tr.lft (Tr.lft (Tr.lft σ.slots))))) (intOf (Tr.val .undef (Tr.lft (Tr.lft (Tr.rgt σ.slots))))) (intOf (nth (Tr.val [] (Tr.lft (Tr.rgt (Tr.lft (Tr.lft σ.boxes))))) 0)) (intOf (nth (Tr.val [] (Tr.lft (Tr.rgt (Tr.lft (Tr.lft σ.boxes))))) 1)) (intOf (nth (Tr.val [] (Tr.lft (Tr.rgt (Tr.lft (Tr.lft σ.boxes))))) 2)) (stringOf (nth (Tr.val [] (Tr.lft (Tr.rgt (Tr.lft (Tr.lft σ.boxes))))) 3)) (boolOf (nth (Tr.val [] (Tr.lft (Tr.rgt (Tr.lft (Tr.lft σ.boxes))))) 4)) (stringOf (nth (Tr.val [] (Tr.lft (Tr.rgt (Tr.lft (Tr.lft σ.boxes))))) 5)) (stringOf (nth (Tr.val [] (Tr.lft (Tr.rgt (Tr.lft (Tr.lft σ.boxes))))) 6)) (fun v => K (.exit 0) ⟨19, Tr.of (nthD .undef [.list (.pair .str (.list .str)) (listOf (.pair .str (.list .str)) (Tr.val .undef σ.slots)) .no, .fn 138 [.ref 19 0], .undef, .undef, .undef, .undef, .undef, .int .i64 (intOf (Tr.val .undef (Tr.lft (Tr.lft (Tr.lft σ.slots))))), .int .i64 v.1]) 5, Tr.of (nthD [] [[], [], [], [], [], [], [], [], [], [], [], [], [], [], [], [], [], [], [], [.int .i64 v.2.1, .int .i64 v.2.2.1, .int .i64 v.2.2.2.1, .str v.2.2.2.2.1, .bool v.2.2.2.2.2.1, .str v.2.2.2.2.2.2.1, .str v.2.2.2.2.2.2.2]]) 5⟩)
    | false => lf p σ K
  | false => lf p σ K
theorem L137_0_d (k : Nat) (κ : Res → Option Res) (h : ∀ (p0 : T3) (p1 : Int) (p2 : Int) (p3 : Int) (p4 : Int) (p5 : Int) (p6 : ByteArray) (p7 : Bool) (p8 : ByteArray) (p9 : ByteArray) (K : Cont), (ev Try.prog cfg k).loop 137 1 κ [true, false, true, false] ⟨19, Tr.of (nthD .undef [.list (.pair .str (.list .str)) p0 .no, .fn 138 [.ref 19 0], .undef, .undef, .undef, .undef, .undef, .int .i64 p1, .int .i64 p2]) 5, Tr.of (nthD [] [[], [], [], [], [], [], [], [], [], [], [], [], [], [], [], [], [], [], [], [.int .i64 p3, .int .i64 p4, .int .i64 p5, .str p6, .bool p7, .str p8, .str p9]]) 5⟩ K = L137_0 k (fun x => κ ((.int .i64 x.1, [[.int .i64 x.2.1, .int .i64 x.2.2.1, .int .i64 x.2.2.2.1, .str x.2.2.2.2.1, .bool x.2.2.2.2.2.1, .str x.2.2.2.2.2.2.1, .str x.2.2.2.2.2.2.2]]) : Res)) p0 p1 p2 p3 p4 p5 p6 p7 p8 p9 (fun v => K (.exit 0) ⟨19, Tr.of (nthD .undef [.list (.pair .str (.list .str)) p0 .no, .fn 138 [.ref 19 0], .undef, .undef, .undef, .undef, .undef, .int .i64 p1, .int .i64 v.1]) 5, Tr.of (nthD [] [[], [], [], [], [], [], [], [], [], [], [], [], [], [], [], [], [], [], [], [.int .i64 v.2.1, .int .i64 v.2.2.1, .int .i64 v.2.2.2.1, .str v.2.2.2.2.1, .bool v.2.2.2.2.2.1, .str v.2.2.2.2.2.2.1, .str v.2.2.2.2.2.2.2]]) 5⟩)) : L137_0_m (L137_0 k (fun x => κ ((.int .i64 x.1, [[.int .i64 x.2.1, .int .i64 x.2.2.1, .int .i64 x.2.2.2.1, .str x.2.2.2.2.1, .bool x.2.2.2.2.2.1, .str x.2.2.2.2.2.2.1, .str x.2.2.2.2.2.2.2]]) : Res))) ((ev Try.prog cfg k).loop 137 1 κ) = (ev Try.prog cfg k).loop 137 1 κ := by
  funext p σ K
  unfold L137_0_m
  split
  · rename_i hp
    split
    · rename_i hs
      have e : mkSt 19 L137_0_s L137_0_b σ = ⟨19, Tr.of (nthD .undef [.list (.pair .str (.list .str)) (listOf (.pair .str (.list .str)) (Tr.val .undef σ.slots)) .no, .fn 138 [.ref 19 0], .undef, .undef, .undef, .undef, .undef, .int .i64 (intOf (Tr.val .undef (Tr.lft (Tr.lft (Tr.lft σ.slots))))), .int .i64 (intOf (Tr.val .undef (Tr.lft (Tr.lft (Tr.rgt σ.slots)))))]) 5, Tr.of (nthD [] [[], [], [], [], [], [], [], [], [], [], [], [], [], [], [], [], [], [], [], [.int .i64 (intOf (nth (Tr.val [] (Tr.lft (Tr.rgt (Tr.lft (Tr.lft σ.boxes))))) 0)), .int .i64 (intOf (nth (Tr.val [] (Tr.lft (Tr.rgt (Tr.lft (Tr.lft σ.boxes))))) 1)), .int .i64 (intOf (nth (Tr.val [] (Tr.lft (Tr.rgt (Tr.lft (Tr.lft σ.boxes))))) 2)), .str (stringOf (nth (Tr.val [] (Tr.lft (Tr.rgt (Tr.lft (Tr.lft σ.boxes))))) 3)), .bool (boolOf (nth (Tr.val [] (Tr.lft (Tr.rgt (Tr.lft (Tr.lft σ.boxes))))) 4)), .str (stringOf (nth (Tr.val [] (Tr.lft (Tr.rgt (Tr.lft (Tr.lft σ.boxes))))) 5)), .str (stringOf (nth (Tr.val [] (Tr.lft (Tr.rgt (Tr.lft (Tr.lft σ.boxes))))) 6))]]) 5⟩ := by kernel_rfl
      rw [pathEq_eq hp]
      exact (h (listOf (.pair .str (.list .str)) (Tr.val .undef σ.slots)) (intOf (Tr.val .undef (Tr.lft (Tr.lft (Tr.lft σ.slots))))) (intOf (Tr.val .undef (Tr.lft (Tr.lft (Tr.rgt σ.slots))))) (intOf (nth (Tr.val [] (Tr.lft (Tr.rgt (Tr.lft (Tr.lft σ.boxes))))) 0)) (intOf (nth (Tr.val [] (Tr.lft (Tr.rgt (Tr.lft (Tr.lft σ.boxes))))) 1)) (intOf (nth (Tr.val [] (Tr.lft (Tr.rgt (Tr.lft (Tr.lft σ.boxes))))) 2)) (stringOf (nth (Tr.val [] (Tr.lft (Tr.rgt (Tr.lft (Tr.lft σ.boxes))))) 3)) (boolOf (nth (Tr.val [] (Tr.lft (Tr.rgt (Tr.lft (Tr.lft σ.boxes))))) 4)) (stringOf (nth (Tr.val [] (Tr.lft (Tr.rgt (Tr.lft (Tr.lft σ.boxes))))) 5)) (stringOf (nth (Tr.val [] (Tr.lft (Tr.rgt (Tr.lft (Tr.lft σ.boxes))))) 6)) K).symm.trans (congrArg (fun s => (ev Try.prog cfg k).loop 137 1 κ [true, false, true, false] s K) (e.symm.trans (okSt_eq hs).symm))
    · rfl
  · rfl
theorem L137_0_k (gF138 : tF138) (gL137_0 : tL137_0) (cf : CallF) (lf : LoopF) (κ : Res → Option Res) (p0 : T3) (p1 : Int) (p2 : Int) (p3 : Int) (p4 : Int) (p5 : Int) (p6 : ByteArray) (p7 : Bool) (p8 : ByteArray) (p9 : ByteArray) (K : Cont) : evLp Try.prog cfg (F138_m gF138 cf) (L137_0_m gL137_0 lf) 137 1 κ [true, false, true, false] ⟨19, Tr.of (nthD .undef [.list (.pair .str (.list .str)) p0 .no, .fn 138 [.ref 19 0], .undef, .undef, .undef, .undef, .undef, .int .i64 p1, .int .i64 p2]) 5, Tr.of (nthD [] [[], [], [], [], [], [], [], [], [], [], [], [], [], [], [], [], [], [], [], [.int .i64 p3, .int .i64 p4, .int .i64 p5, .str p6, .bool p7, .str p8, .str p9]]) 5⟩ K = L137_0_B gF138 gL137_0 (fun x => κ ((.int .i64 x.1, [[.int .i64 x.2.1, .int .i64 x.2.2.1, .int .i64 x.2.2.2.1, .str x.2.2.2.2.1, .bool x.2.2.2.2.2.1, .str x.2.2.2.2.2.2.1, .str x.2.2.2.2.2.2.2]]) : Res)) p0 p1 p2 p3 p4 p5 p6 p7 p8 p9 (fun v => K (.exit 0) ⟨19, Tr.of (nthD .undef [.list (.pair .str (.list .str)) p0 .no, .fn 138 [.ref 19 0], .undef, .undef, .undef, .undef, .undef, .int .i64 p1, .int .i64 v.1]) 5, Tr.of (nthD [] [[], [], [], [], [], [], [], [], [], [], [], [], [], [], [], [], [], [], [], [.int .i64 v.2.1, .int .i64 v.2.2.1, .int .i64 v.2.2.2.1, .str v.2.2.2.2.1, .bool v.2.2.2.2.2.1, .str v.2.2.2.2.2.2.1, .str v.2.2.2.2.2.2.2]]) 5⟩) := by
  kernel_rfl
theorem L137_0_ev : ∀ (k : Nat) (κ : Res → Option Res) (p0 : T3) (p1 : Int) (p2 : Int) (p3 : Int) (p4 : Int) (p5 : Int) (p6 : ByteArray) (p7 : Bool) (p8 : ByteArray) (p9 : ByteArray) (K : Cont), (ev Try.prog cfg k).loop 137 1 κ [true, false, true, false] ⟨19, Tr.of (nthD .undef [.list (.pair .str (.list .str)) p0 .no, .fn 138 [.ref 19 0], .undef, .undef, .undef, .undef, .undef, .int .i64 p1, .int .i64 p2]) 5, Tr.of (nthD [] [[], [], [], [], [], [], [], [], [], [], [], [], [], [], [], [], [], [], [], [.int .i64 p3, .int .i64 p4, .int .i64 p5, .str p6, .bool p7, .str p8, .str p9]]) 5⟩ K = L137_0 k (fun x => κ ((.int .i64 x.1, [[.int .i64 x.2.1, .int .i64 x.2.2.1, .int .i64 x.2.2.2.1, .str x.2.2.2.2.1, .bool x.2.2.2.2.2.1, .str x.2.2.2.2.2.2.1, .str x.2.2.2.2.2.2.2]]) : Res)) p0 p1 p2 p3 p4 p5 p6 p7 p8 p9 (fun v => K (.exit 0) ⟨19, Tr.of (nthD .undef [.list (.pair .str (.list .str)) p0 .no, .fn 138 [.ref 19 0], .undef, .undef, .undef, .undef, .undef, .int .i64 p1, .int .i64 v.1]) 5, Tr.of (nthD [] [[], [], [], [], [], [], [], [], [], [], [], [], [], [], [], [], [], [], [], [.int .i64 v.2.1, .int .i64 v.2.2.1, .int .i64 v.2.2.2.1, .str v.2.2.2.2.1, .bool v.2.2.2.2.2.1, .str v.2.2.2.2.2.2.1, .str v.2.2.2.2.2.2.2]]) 5⟩) := by
  intro k κ
  induction k with
  | zero => intro p0 p1 p2 p3 p4 p5 p6 p7 p8 p9 K; rfl
  | succ k ih =>
    intro p0 p1 p2 p3 p4 p5 p6 p7 p8 p9 K
    rw [ev_loop, ← F138_d k (F138_ev k), ← L137_0_d k κ ih]
    exact L137_0_k _ _ _ _ κ p0 p1 p2 p3 p4 p5 p6 p7 p8 p9 K
def F137_B (gF138 : tF138) (gL137_0 : tL137_0) (a0 : T3) (b0_0 : Int) (b0_1 : Int) (b0_2 : Int) (b0_3 : ByteArray) (b0_4 : Bool) (b0_5 : ByteArray) (b0_6 : ByteArray) (κ : Int × Int × Int × Int × ByteArray × Bool × ByteArray × ByteArray → Option Res) : Option Res :=
  chk1 (gL137_0 a0 (a0.length : Int) (0 : Int) b0_0 b0_1 b0_2 b0_3 b0_4 b0_5 b0_6 fun v2 =>
   κ ((-1 : Int), (v2.2.1, (v2.2.2.1, (v2.2.2.2.1, (v2.2.2.2.2.1, (v2.2.2.2.2.2.1, (v2.2.2.2.2.2.2.1, v2.2.2.2.2.2.2.2))))))))
/-- slices.IndexFunc[[]lamplighter/api.Bind,lamplighter/api.Bind] -/
def F137 : Nat → T3 → Int → Int → Int → ByteArray → Bool → ByteArray → ByteArray → (Int × Int × Int × Int × ByteArray × Bool × ByteArray × ByteArray → Option Res) → Option Res
  | 0, _, _, _, _, _, _, _, _, _ => none
  | k + 1, a0, b0_0, b0_1, b0_2, b0_3, b0_4, b0_5, b0_6, κ => F137_B (F138 k) (L137_0 k κ) a0 b0_0 b0_1 b0_2 b0_3 b0_4 b0_5 b0_6 κ
def F137_s : List SC := [.one (.list (.pair .str (.list .str)) .no), .fn 138 [.ref 0 0]]
def F137_b : List (List SC) := [[.one (.int .i64), .one (.int .i64), .one (.int .i64), .one .str, .one .bool, .one .str, .one .str]]
def F137_m (g : T3 → Int → Int → Int → ByteArray → Bool → ByteArray → ByteArray → (Int × Int × Int × Int × ByteArray × Bool × ByteArray × ByteArray → Option Res) → Option Res) (cf : CallF) : CallF := fun f args lent κ => match Nat.beq f 137 with
  | true => match okC F137_s args && okB F137_b lent with
    | true => g (listOf (.pair .str (.list .str)) (nth args 0)) (intOf (nth (nthB lent 0) 0)) (intOf (nth (nthB lent 0) 1)) (intOf (nth (nthB lent 0) 2)) (stringOf (nth (nthB lent 0) 3)) (boolOf (nth (nthB lent 0) 4)) (stringOf (nth (nthB lent 0) 5)) (stringOf (nth (nthB lent 0) 6)) (fun x => κ ((.int .i64 x.1, [[.int .i64 x.2.1, .int .i64 x.2.2.1, .int .i64 x.2.2.2.1, .str x.2.2.2.2.1, .bool x.2.2.2.2.2.1, .str x.2.2.2.2.2.2.1, .str x.2.2.2.2.2.2.2]]) : Res))
    | false => cf f args lent κ
  | false => cf f args lent κ
theorem F137_d (k : Nat) (h : ∀ (a0 : T3) (b0_0 : Int) (b0_1 : Int) (b0_2 : Int) (b0_3 : ByteArray) (b0_4 : Bool) (b0_5 : ByteArray) (b0_6 : ByteArray) (κ : Res → Option Res), (ev Try.prog cfg k).call 137 [.list (.pair .str (.list .str)) a0 .no, .fn 138 [.ref 0 0]] [[.int .i64 b0_0, .int .i64 b0_1, .int .i64 b0_2, .str b0_3, .bool b0_4, .str b0_5, .str b0_6]] κ = F137 k a0 b0_0 b0_1 b0_2 b0_3 b0_4 b0_5 b0_6 (fun x => κ ((.int .i64 x.1, [[.int .i64 x.2.1, .int .i64 x.2.2.1, .int .i64 x.2.2.2.1, .str x.2.2.2.2.1, .bool x.2.2.2.2.2.1, .str x.2.2.2.2.2.2.1, .str x.2.2.2.2.2.2.2]]) : Res))) : F137_m (F137 k) (ev Try.prog cfg k).call = (ev Try.prog cfg k).call := by
  funext f args lent κ
  unfold F137_m
  split
  · rename_i hp
    split
    · rename_i hs
      rw [Bool.and_eq_true] at hs
      have e : mkC F137_s 0 args = [.list (.pair .str (.list .str)) (listOf (.pair .str (.list .str)) (nth args 0)) .no, .fn 138 [.ref 0 0]] := by kernel_rfl
      have e' : mkB F137_b 0 lent = [[.int .i64 (intOf (nth (nthB lent 0) 0)), .int .i64 (intOf (nth (nthB lent 0) 1)), .int .i64 (intOf (nth (nthB lent 0) 2)), .str (stringOf (nth (nthB lent 0) 3)), .bool (boolOf (nth (nthB lent 0) 4)), .str (stringOf (nth (nthB lent 0) 5)), .str (stringOf (nth (nthB lent 0) 6))]] := by kernel_rfl
      obtain rfl := Nat.eq_of_beq_eq_true hp
      exact (h (listOf (.pair .str (.list .str)) (nth args 0)) (intOf (nth (nthB lent 0) 0)) (intOf (nth (nthB lent 0) 1)) (intOf (nth (nthB lent 0) 2)) (stringOf (nth (nthB lent 0) 3)) (boolOf (nth (nthB lent 0) 4)) (stringOf (nth (nthB lent 0) 5)) (stringOf (nth (nthB lent 0) 6)) κ).symm.trans (cong2 (fun a l => (ev Try.prog cfg k).call 137 a l κ) (e.symm.trans (okC_eq hs.1).symm) (e'.symm.trans (okB_eq hs.2).symm))
    · rfl
  · rfl
theorem F137_k (gF138 : tF138) (gL137_0 : tL137_0) (cf : CallF) (lf : LoopF) (a0 : T3) (b0_0 : Int) (b0_1 : Int) (b0_2 : Int) (b0_3 : ByteArray) (b0_4 : Bool) (b0_5 : ByteArray) (b0_6 : ByteArray) (κ : Res → Option Res) : evFn Try.prog cfg (F138_m gF138 cf) (L137_0_m gL137_0 lf) 137 [.list (.pair .str (.list .str)) a0 .no, .fn 138 [.ref 0 0]] [[.int .i64 b0_0, .int .i64 b0_1, .int .i64 b0_2, .str b0_3, .bool b0_4, .str b0_5, .str b0_6]] κ = F137_B gF138 gL137_0 a0 b0_0 b0_1 b0_2 b0_3 b0_4 b0_5 b0_6 (fun x => κ ((.int .i64 x.1, [[.int .i64 x.2.1, .int .i64 x.2.2.1, .int .i64 x.2.2.2.1, .str x.2.2.2.2.1, .bool x.2.2.2.2.2.1, .str x.2.2.2.2.2.2.1, .str x.2.2.2.2.2.2.2]]) : Res)) := by
  kernel_rfl
theorem F137_ev : ∀ (k : Nat) (a0 : T3) (b0_0 : Int) (b0_1 : Int) (b0_2 : Int) (b0_3 : ByteArray) (b0_4 : Bool) (b0_5 : ByteArray) (b0_6 : ByteArray) (κ : Res → Option Res), (ev Try.prog cfg k).call 137 [.list (.pair .str (.list .str)) a0 .no, .fn 138 [.ref 0 0]] [[.int .i64 b0_0, .int .i64 b0_1, .int .i64 b0_2, .str b0_3, .bool b0_4, .str b0_5, .str b0_6]] κ = F137 k a0 b0_0 b0_1 b0_2 b0_3 b0_4 b0_5 b0_6 (fun x => κ ((.int .i64 x.1, [[.int .i64 x.2.1, .int .i64 x.2.2.1, .int .i64 x.2.2.2.1, .str x.2.2.2.2.1, .bool x.2.2.2.2.2.1, .str x.2.2.2.2.2.2.1, .str x.2.2.2.2.2.2.2]]) : Res)) := by
  intro k
  induction k with
  | zero => intros; rfl
  | succ k ih =>
    intro a0 b0_0 b0_1 b0_2 b0_3 b0_4 b0_5 b0_6 κ
    refine (ev_call' Try.prog cfg k 137 1 _ _ κ (by rfl)).trans ?_
    rw [← F138_d k (F138_ev k), ← L137_0_d k κ (L137_0_ev k κ)]
    exact F137_k _ _ _ _ a0 b0_0 b0_1 b0_2 b0_3 b0_4 b0_5 b0_6 κ
def F93v1_B  (a1 : ByteArray) (κ : T4 × Bool → Option Res) : Option Res :=
  chk6 (κ (((⟨#[]⟩ : ByteArray), ([] : List (ByteArray × Int))), false))
/-- (*lamplighter/schema.Schema).Find -/
def F93v1 : Nat → ByteArray → (T4 × Bool → Option Res) → Option Res
  | 0, _, _ => none
  | k + 1, a1, κ => F93v1_B  a1 κ
def F93v1_s : List SC := [.one .nilp, .one .str]
def F93v1_b : List (List SC) := []
def F93v1_m (g : ByteArray → (T4 × Bool → Option Res) → Option Res) (cf : CallF) : CallF := fun f args lent κ => match Nat.beq f 93 with
  | true => match okC F93v1_s args && okB F93v1_b lent with
    | true => g (stringOf (nth args 1)) (fun x => κ ((.tup [.agg [.str x.1.1, .list (.pair .str (.int .i64)) x.1.2 .no], .bool x.2], []) : Res))
    | false => cf f args lent κ
  | false => cf f args lent κ
theorem F93v1_d (k : Nat) (h : ∀ (a1 : ByteArray) (κ : Res → Option Res), (ev Try.prog cfg k).call 93 [.nilp, .str a1] [] κ = F93v1 k a1 (fun x => κ ((.tup [.agg [.str x.1.1, .list (.pair .str (.int .i64)) x.1.2 .no], .bool x.2], []) : Res))) : F93v1_m (F93v1 k) (ev Try.prog cfg k).call = (ev Try.prog cfg k).call := by
  funext f args lent κ
  unfold F93v1_m
  split
  · rename_i hp
    split
    · rename_i hs
      rw [Bool.and_eq_true] at hs
      have e : mkC F93v1_s 0 args = [.nilp, .str (stringOf (nth args 1))] := by kernel_rfl
      have e' : mkB F93v1_b 0 lent = [] := by kernel_rfl
      obtain rfl := Nat.eq_of_beq_eq_true hp
      exact (h (stringOf (nth args 1)) κ).symm.trans (cong2 (fun a l => (ev Try.prog cfg k).call 93 a l κ) (e.symm.trans (okC_eq hs.1).symm) (e'.symm.trans (okB_eq hs.2).symm))
    · rfl
  · rfl
theorem F93v1_k  (cf : CallF) (lf : LoopF) (a1 : ByteArray) (κ : Res → Option Res) : evFn Try.prog cfg cf lf 93 [.nilp, .str a1] [] κ = F93v1_B  a1 (fun x => κ ((.tup [.agg [.str x.1.1, .list (.pair .str (.int .i64)) x.1.2 .no], .bool x.2], []) : Res)) := by
  kernel_rfl
theorem F93v1_ev : ∀ (k : Nat) (a1 : ByteArray) (κ : Res → Option Res), (ev Try.prog cfg k).call 93 [.nilp, .str a1] [] κ = F93v1 k a1 (fun x => κ ((.tup [.agg [.str x.1.1, .list (.pair .str (.int .i64)) x.1.2 .no], .bool x.2], []) : Res)) := by
  intro k
  induction k with
  | zero => intros; rfl
  | succ k ih =>
    intro a1 κ
    refine (ev_call' Try.prog cfg k 93 0 _ _ κ (by rfl)).trans ?_
    skip
    exact F93v1_k  _ _ a1 κ
def L139_0_B (gL139_0 : tL139_0) (κ : Int × Int → Option Res) (p0 : ByteArray) (p1 : (List (ByteArray × Int))) (p2 : Int) (p3 : Int) (K : Int → Option Res) : Option Res :=
  chk1 (if decide (p3 < p2) = true then
    (if (true && (decide ((0 : Int) ≤ p3) && decide (p3 < (p1.length : Int)))) = true then
     (chk4 (if (((p1.getD p3.toNat ((⟨#[]⟩ : ByteArray), (0 : Int))).1).toList == p0.toList) = true then
       (κ (p3, (p1.getD p3.toNat ((⟨#[]⟩ : ByteArray), (0 : Int))).2))
      else
       (chk1 (gL139_0 p0 p1 p2 (IntKind.wrap .i64 (p3 + (1 : Int))) K))))
    else
     (none))
   else
    (K p3))
def L139_0 : Nat → (Int × Int → Option Res) → ByteArray → (List (ByteArray × Int)) → Int → Int → (Int → Option Res) → Option Res
  | 0, _, _, _, _, _, _ => none
  | k + 1, κ, p0, p1, p2, p3, K => L139_0_B (fun p0 p1 p2 p3 K => L139_0 k κ p0 p1 p2 p3 K) κ p0 p1 p2 p3 K
def L139_0_s : Tr SC := Tr.of (nthD (.one .undef) [.one .undef, .one .undef, .one .str, .one .undef, .one .undef, .one .undef, .one .undef, .one .undef, .one .undef, .one .undef, .one .undef, .one .undef, .one .undef, .one .undef, .one .undef, .one .undef, .one .undef, .one .undef, .one .undef, .one (.list (.pair .str (.int .i64)) .no), .one (.int .i64), .one (.int .i64)]) 6
def L139_0_b : Tr (List SC) := Tr.of (nthD [] []) 6
def L139_0_m (g : ByteArray → (List (ByteArray × Int)) → Int → Int → (Int → Option Res) → Option Res) (lf : LoopF) : LoopF := fun p σ K => match pathEq p [true, true, false, true, false] with
  | true => match okSt 34 L139_0_s L139_0_b σ with
    | true => g (stringOf (Tr.val .undef (Tr.rgt σ.slots))) (listOf (.pair .str (.int .i64)) (Tr.val .undef (Tr.lft (Tr.rgt (Tr.lft (Tr.lft σ.slots)))))) (intOf (Tr.val .undef (Tr.lft (Tr.rgt (Tr.lft (Tr.rgt σ.slots)))))) (intOf (Tr.val .undef (Tr.lft (Tr.rgt (Tr.rgt (Tr.lft σ.slots)))))) (fun v => K (.exit 0) ⟨34, Tr.of (nthD .undef [.undef, .undef, .str (stringOf (Tr.val .undef (Tr.rgt σ.slots))), .undef, .undef, .undef, .undef, .undef, .undef, .undef, .undef, .undef, .undef, .undef, .undef, .undef, .undef, .undef, .undef, .list (.pair .str (.int .i64)) (listOf (.pair .str (.int .i64)) (Tr.val .undef (Tr.lft (Tr.rgt (Tr.lft (Tr.lft σ.slots)))))) .no, .int .i64 (intOf (Tr.val .undef (Tr.lft (Tr.rgt (Tr.lft (Tr.rgt σ.slots)))))), .int .i64 v]) 6, Tr.of (nthD [] []) 6⟩)
    | false => lf p σ K
  | false => lf p σ K
theorem L139_0_d (k : Nat) (κ : Res → Option Res) (h : ∀ (p0 : ByteArray) (p1 : (List (ByteArray × Int))) (p2 : Int) (p3 : Int) (K : Cont), (ev Try.prog cfg k).loop 139 0 κ [true, true, false, true, false] ⟨34, Tr.of (nthD .undef [.undef, .undef, .str p0, .undef, .undef, .undef, .undef, .undef, .undef, .undef, .undef, .undef, .undef, .undef, .undef, .undef, .undef, .undef, .undef, .list (.pair .str (.int .i64)) p1 .no, .int .i64 p2, .int .i64 p3]) 6, Tr.of (nthD [] []) 6⟩ K = L139_0 k (fun x => κ ((.tup [.int .i64 x.1, .int .i64 x.2], []) : Res)) p0 p1 p2 p3 (fun v => K (.exit 0) ⟨34, Tr.of (nthD .undef [.undef, .undef, .str p0, .undef, .undef, .undef, .undef, .undef, .undef, .undef, .undef, .undef, .undef, .undef, .undef, .undef, .undef, .undef, .undef, .list (.pair .str (.int .i64)) p1 .no, .int .i64 p2, .int .i64 v]) 6, Tr.of (nthD [] []) 6⟩)) : L139_0_m (L139_0 k (fun x => κ ((.tup [.int .i64 x.1, .int .i64 x.2], []) : Res))) ((ev Try.prog cfg k).loop 139 0 κ) = (ev Try.prog cfg k).loop 139 0 κ := by
  funext p σ K
  unfold L139_0_m
  split
  · rename_i hp
    split
    · rename_i hs
      have e : mkSt 34 L139_0_s L139_0_b σ = ⟨34, Tr.of (nthD .undef [.undef, .undef, .str (stringOf (Tr.val .undef (Tr.rgt σ.slots))), .undef, .undef, .undef, .undef, .undef, .undef, .undef, .undef, .undef, .undef, .undef, .undef, .undef, .undef, .undef, .undef, .list (.pair .str (.int .i64)) (listOf (.pair .str (.int .i64)) (Tr.val .undef (Tr.lft (Tr.rgt (Tr.lft (Tr.lft σ.slots)))))) .no, .int .i64 (intOf (Tr.val .undef (Tr.lft (Tr.rgt (Tr.lft (Tr.rgt σ.slots)))))), .int .i64 (intOf (Tr.val .undef (Tr.lft (Tr.rgt (Tr.rgt (Tr.lft σ.slots))))))]) 6, Tr.of (nthD [] []) 6⟩ := by kernel_rfl
      rw [pathEq_eq hp]
      exact (h (stringOf (Tr.val .undef (Tr.rgt σ.slots))) (listOf (.pair .str (.int .i64)) (Tr.val .undef (Tr.lft (Tr.rgt (Tr.lft (Tr.lft σ.slots)))))) (intOf (Tr.val .undef (Tr.lft (Tr.rgt (Tr.lft (Tr.rgt σ.slots)))))) (intOf (Tr.val .undef (Tr.lft (Tr.rgt (Tr.rgt (Tr.lft σ.slots)))))) K).symm.trans (congrArg (fun s => (ev Try.prog cfg k).loop 139 0 κ [true, true, false, true, false] s K) (e.symm.trans (okSt_eq hs).symm))
    · rfl
  · rfl
theorem L139_0_k (gL139_0 : tL139_0) (cf : CallF) (lf : LoopF) (κ : Res → Option Res) (p0 : ByteArray) (p1 : (List (ByteArray × Int))) (p2 : Int) (p3 : Int) (K : Cont) : evLp Try.prog cfg cf (L139_0_m gL139_0 lf) 139 0 κ [true, true, false, true, false] ⟨34, Tr.of (nthD .undef [.undef, .undef, .str p0, .undef, .undef, .undef, .undef, .undef, .undef, .undef, .undef, .undef, .undef, .undef, .undef, .undef, .undef, .undef, .undef, .list (.pair .str (.int .i64)) p1 .no, .int .i64 p2, .int .i64 p3]) 6, Tr.of (nthD [] []) 6⟩ K = L139_0_B gL139_0 (fun x => κ ((.tup [.int .i64 x.1, .int .i64 x.2], []) : Res)) p0 p1 p2 p3 (fun v => K (.exit 0) ⟨34, Tr.of (nthD .undef [.undef, .undef, .str p0, .undef, .undef, .undef, .undef, .undef, .undef, .undef, .undef, .undef, .undef, .undef, .undef, .undef, .undef, .undef, .undef, .list (.pair .str (.int .i64)) p1 .no, .int .i64 p2, .int .i64 v]) 6, Tr.of (nthD [] []) 6⟩) := by
  kernel_rfl
theorem L139_0_ev : ∀ (k : Nat) (κ : Res → Option Res) (p0 : ByteArray) (p1 : (List (ByteArray × Int))) (p2 : Int) (p3 : Int) (K : Cont), (ev Try.prog cfg k).loop 139 0 κ [true, true, false, true, false] ⟨34, Tr.of (nthD .undef [.undef, .undef, .str p0, .undef, .undef, .undef, .undef, .undef, .undef, .undef, .undef, .undef, .undef, .undef, .undef, .undef, .undef, .undef, .undef, .list (.pair .str (.int .i64)) p1 .no, .int .i64 p2, .int .i64 p3]) 6, Tr.of (nthD [] []) 6⟩ K = L139_0 k (fun x => κ ((.tup [.int .i64 x.1, .int .i64 x.2], []) : Res)) p0 p1 p2 p3 (fun v => K (.exit 0) ⟨34, Tr.of (nthD .undef [.undef, .undef, .str p0, .undef, .undef, .undef, .undef, .undef, .undef, .undef, .undef, .undef, .undef, .undef, .undef, .undef, .undef, .undef, .undef, .list (.pair .str (.int .i64)) p1 .no, .int .i64 p2, .int .i64 v]) 6, Tr.of (nthD [] []) 6⟩) := by
  intro k κ
  induction k with
  | zero => intro p0 p1 p2 p3 K; rfl
  | succ k ih =>
    intro p0 p1 p2 p3 K
    rw [ev_loop, ← L139_0_d k κ ih]
    exact L139_0_k _ _ _ κ p0 p1 p2 p3 K
def F139_B (gF93v1 : tF93v1) (gL139_0 : tL139_0) (a1 : ByteArray) (a2 : ByteArray) (κ : Int × Int → Option Res) : Option Res :=
  chk1 (gF93v1 a1 fun x1 =>
   chk5 (gL139_0 a2 x1.1.2 (x1.1.2.length : Int) (0 : Int) fun v2 =>
    κ ((-1 : Int), (0 : Int))))
/-- (*lamplighter/schema.Schema).Field -/
def F139 : Nat → ByteArray → ByteArray → (Int × Int → Option Res) → Option Res
  | 0, _, _, _ => none
  | k + 1, a1, a2, κ => F139_B (F93v1 k) (L139_0 k κ) a1 a2 κ
def F139_s : List SC := [.one .nilp, .one .str, .one .str]
def F139_b : List (List SC) := []
def F139_m (g : ByteArray → ByteArray → (Int × Int → Option Res) → Option Res) (cf : CallF) : CallF := fun f args lent κ => match Nat.beq f 139 with
  | true => match okC F139_s args && okB F139_b lent with
    | true => g (stringOf (nth args 1)) (stringOf (nth args 2)) (fun x => κ ((.tup [.int .i64 x.1, .int .i64 x.2], []) : Res))
    | false => cf f args lent κ
  | false => cf f args lent κ
theorem F139_d (k : Nat) (h : ∀ (a1 : ByteArray) (a2 : ByteArray) (κ : Res → Option Res), (ev Try.prog cfg k).call 139 [.nilp, .str a1, .str a2] [] κ = F139 k a1 a2 (fun x => κ ((.tup [.int .i64 x.1, .int .i64 x.2], []) : Res))) : F139_m (F139 k) (ev Try.prog cfg k).call = (ev Try.prog cfg k).call := by
  funext f args lent κ
  unfold F139_m
  split
  · rename_i hp
    split
    · rename_i hs
      rw [Bool.and_eq_true] at hs
      have e : mkC F139_s 0 args = [.nilp, .str (stringOf (nth args 1)), .str (stringOf (nth args 2))] := by kernel_rfl
      have e' : mkB F139_b 0 lent = [] := by kernel_rfl
      obtain rfl := Nat.eq_of_beq_eq_true hp
      exact (h (stringOf (nth args 1)) (stringOf (nth args 2)) κ).symm.trans (cong2 (fun a l => (ev Try.prog cfg k).call 139 a l κ) (e.symm.trans (okC_eq hs.1).symm) (e'.symm.trans (okB_eq hs.2).symm))
    · rfl
  · rfl
theorem F139_k (gF93v1 : tF93v1) (gL139_0 : tL139_0) (cf : CallF) (lf : LoopF) (a1 : ByteArray) (a2 : ByteArray) (κ : Res → Option Res) : evFn Try.prog cfg (F93v1_m gF93v1 cf) (L139_0_m gL139_0 lf) 139 [.nilp, .str a1, .str a2] [] κ = F139_B gF93v1 gL139_0 a1 a2 (fun x => κ ((.tup [.int .i64 x.1, .int .i64 x.2], []) : Res)) := by
  kernel_rfl
theorem F139_ev : ∀ (k : Nat) (a1 : ByteArray) (a2 : ByteArray) (κ : Res → Option Res), (ev Try.prog cfg k).call 139 [.nilp, .str a1, .str a2] [] κ = F139 k a1 a2 (fun x => κ ((.tup [.int .i64 x.1, .int .i64 x.2], []) : Res)) := by
  intro k
  induction k with
  | zero => intros; rfl
  | succ k ih =>
    intro a1 a2 κ
    refine (ev_call' Try.prog cfg k 139 0 _ _ κ (by rfl)).trans ?_
    rw [← F93v1_d k (F93v1_ev k), ← L139_0_d k κ (L139_0_ev k κ)]
    exact F139_k _ _ _ _ a1 a2 κ
def L97_0_B (gF139 : tF139) (gL97_0 : tL97_0) (κ : Int × Int → Option Res) (p0 : Int) (p1 : (List ByteArray)) (p2 : Int) (p3 : Int) (p4 : Int) (p5 : Int) (p6 : Int) (p7 : ByteArray) (p8 : Bool) (p9 : ByteArray) (p10 : ByteArray) (K : Int × Int → Option Res) : Option Res :=
  chk1 (if decide (p3 < p2) = true then
    (if (true && (decide ((0 : Int) ≤ p3) && decide (p3 < (p1.length : Int)))) = true then
     (chk1 (gF139 (p1.getD p3.toNat (⟨#[]⟩ : ByteArray)) p10 fun x2 =>
      chk2 (if decide (x2.1 < (0 : Int)) = true then
        (chk1 (κ ((0 : Int), (10 : Int))))
       else
        (chk1 (if (p0 != (0 : Int)) = true then
          (chk1 (if (x2.2 != p0) = true then
            (κ ((0 : Int), (10 : Int)))
           else
            (chk1 (gL97_0 x2.2 p1 p2 (IntKind.wrap .i64 (p3 + (1 : Int))) p4 p5 p6 p7 p8 p9 p10 K))))
         else
          (if false = true then
           (none)
          else
           (chk1 (gL97_0 x2.2 p1 p2 (IntKind.wrap .i64 (p3 + (1 : Int))) p4 p5 p6 p7 p8 p9 p10 K))))))))
    else
     (none))
   else
    (K (p0, p3)))
def L97_0 : Nat → (Int × Int → Option Res) → Int → (List ByteArray) → Int → Int → Int → Int → Int → ByteArray → Bool → ByteArray → ByteArray → (Int × Int → Option Res) → Option Res
  | 0, _, _, _, _, _, _, _, _, _, _, _, _, _ => none
  | k + 1, κ, p0, p1, p2, p3, p4, p5, p6, p7, p8, p9, p10, K => L97_0_B (F139 k) (fun p0 p1 p2 p3 p4 p5 p6 p7 p8 p9 p10 K => L97_0 k κ p0 p1 p2 p3 p4 p5 p6 p7 p8 p9 p10 K) κ p0 p1 p2 p3 p4 p5 p6 p7 p8 p9 p10 K
def L97_0_s : Tr SC := Tr.of (nthD (.one .undef) [.one .nilp, .one .undef, .one .undef, .one .undef, .one .undef, .one (.ref 5 0), .one .undef, .one .undef, .one .undef, .one (.int .i64), .one .undef, .one .undef, .one .undef, .one .undef, .one .undef, .one .undef, .one .undef, .one .undef, .one .undef, .one .undef, .one .undef, .one .undef, .one .undef, .one (.list .str .no), .one (.int .i64), .one (.int .i64)]) 6
def L97_0_b : Tr (List SC) := Tr.of (nthD [] [[], [], [], [], [], [.one (.int .i64), .one (.int .i64), .one (.int .i64), .one .str, .one .bool, .one .str, .one .str]]) 6
def L97_0_m (g : Int → (List ByteArray) → Int → Int → Int → Int → Int → ByteArray → Bool → ByteArray → ByteArray → (Int × Int → Option Res) → Option Res) (lf : LoopF) : LoopF := fun p σ K => match pathEq p [true, true, true, true, false, true, false] with
  | true => match okSt 53 L97_0_s L97_0_b σ with
    | true => g (intOf (Tr.val .undef (Tr.lft (Tr.rgt (Tr.lft σ.slots))))) (listOf .str (Tr.val .undef (Tr.rgt (Tr.lft (Tr.lft (Tr.lft σ.slots)))))) (intOf (Tr.val .undef (Tr.rgt (Tr.lft (Tr.lft (Tr.rgt σ.slots)))))) (intOf (Tr.val .undef (Tr.rgt (Tr.lft (Tr.rgt (Tr.lft σ.slots)))))) (intOf (nth (Tr.val [] (Tr.rgt (Tr.lft σ.boxes))) 0)) (intOf (nth (Tr.val [] (Tr.rgt (Tr.lft σ.boxes))) 1)) (intOf (nth (Tr.val [] (Tr.rgt (Tr.lft σ.boxes))) 2)) (stringOf (nth (Tr.val [] (Tr.rgt (Tr.lft σ.boxes))) 3)) (boolOf (nth (Tr.val [] (Tr.rgt (Tr.lft σ.boxes))) 4)) (stringOf (nth (Tr.val [] (Tr.rgt (Tr.lft σ.boxes))) 5)) (stringOf (nth (Tr.val [] (Tr.rgt (Tr.lft σ.boxes))) 6)) (fun v => K (.exit 0) ⟨53, Tr.of (nthD .undef [.nilp, .undef, .undef, .undef, .undef, .ref 5 0, .undef, .undef, .undef, .int .i64 v.1, .undef, .undef, .undef, .undef, .undef, .undef, .undef, .undef, .undef, .undef, .undef, .undef, .undef, .list .str (listOf .str (Tr.val .undef (Tr.rgt (Tr.lft (Tr.lft (Tr.lft σ.slots)))))) .no, .int .i64 (intOf (Tr.val .undef (Tr.rgt (Tr.lft (Tr.lft (Tr.rgt σ.slots)))))), .int .i64 v.2]) 6, Tr.of (nthD [] [[], [], [], [], [], [.int .i64 (intOf (nth (Tr.val [] (Tr.rgt (Tr.lft σ.boxes))) 0)), .int .i64 (intOf (nth (Tr.val [] (Tr.rgt (Tr.lft σ.boxes))) 1)), .int .i64 (intOf (nth (Tr.val [] (Tr.rgt (Tr.lft σ.boxes))) 2)), .str (stringOf (nth (Tr.val [] (Tr.rgt (Tr.lft σ.boxes))) 3)), .bool (boolOf (nth (Tr.val [] (Tr.rgt (Tr.lft σ.boxes))) 4)), .str (stringOf (nth (Tr.val [] (Tr.rgt (Tr.lft σ.boxes))) 5)), .str (stringOf (nth (Tr.val [] (Tr.rgt (Tr.lft σ.boxes))) 6))]]) 6⟩)
    | false => lf p σ K
  | false => lf p σ K
theorem L97_0_d (k : Nat) (κ : Res → Option Res) (h : ∀ (p0 : Int) (p1 : (List ByteArray)) (p2 : Int) (p3 : Int) (p4 : Int) (p5 : Int) (p6 : Int) (p7 : ByteArray) (p8 : Bool) (p9 : ByteArray) (p10 : ByteArray) (K : Cont), (ev Try.prog cfg k).loop 97 0 κ [true, true, true, true, false, true, false] ⟨53, Tr.of (nthD .undef [.nilp, .undef, .undef, .undef, .undef, .ref 5 0, .undef, .undef, .undef, .int .i64 p0, .undef, .undef, .undef, .undef, .undef, .undef, .undef, .undef, .undef, .undef, .undef, .undef, .undef, .list .str p1 .no, .int .i64 p2, .int .i64 p3]) 6, Tr.of (nthD [] [[], [], [], [], [], [.int .i64 p4, .int .i64 p5, .int .i64 p6, .str p7, .bool p8, .str p9, .str p10]]) 6⟩ K = L97_0 k (fun x => κ ((.tup [.int .i64 x.1, .int .i64 x.2], []) : Res)) p0 p1 p2 p3 p4 p5 p6 p7 p8 p9 p10 (fun v => K (.exit 0) ⟨53, Tr.of (nthD .undef [.nilp, .undef, .undef, .undef, .undef, .ref 5 0, .undef, .undef, .undef, .int .i64 v.1, .undef, .undef, .undef, .undef, .undef, .undef, .undef, .undef, .undef, .undef, .undef, .undef, .undef, .list .str p1 .no, .int .i64 p2, .int .i64 v.2]) 6, Tr.of (nthD [] [[], [], [], [], [], [.int .i64 p4, .int .i64 p5, .int .i64 p6, .str p7, .bool p8, .str p9, .str p10]]) 6⟩)) : L97_0_m (L97_0 k (fun x => κ ((.tup [.int .i64 x.1, .int .i64 x.2], []) : Res))) ((ev Try.prog cfg k).loop 97 0 κ) = (ev Try.prog cfg k).loop 97 0 κ := by
  funext p σ K
  unfold L97_0_m
  split
  · rename_i hp
    split
    · rename_i hs
      have e : mkSt 53 L97_0_s L97_0_b σ = ⟨53, Tr.of (nthD .undef [.nilp, .undef, .undef, .undef, .undef, .ref 5 0, .undef, .undef, .undef, .int .i64 (intOf (Tr.val .undef (Tr.lft (Tr.rgt (Tr.lft σ.slots))))), .undef, .undef, .undef, .undef, .undef, .undef, .undef, .undef, .undef, .undef, .undef, .undef, .undef, .list .str (listOf .str (Tr.val .undef (Tr.rgt (Tr.lft (Tr.lft (Tr.lft σ.slots)))))) .no, .int .i64 (intOf (Tr.val .undef (Tr.rgt (Tr.lft (Tr.lft (Tr.rgt σ.slots)))))), .int .i64 (intOf (Tr.val .undef (Tr.rgt (Tr.lft (Tr.rgt (Tr.lft σ.slots))))))]) 6, Tr.of (nthD [] [[], [], [], [], [], [.int .i64 (intOf (nth (Tr.val [] (Tr.rgt (Tr.lft σ.boxes))) 0)), .int .i64 (intOf (nth (Tr.val [] (Tr.rgt (Tr.lft σ.boxes))) 1)), .int .i64 (intOf (nth (Tr.val [] (Tr.rgt (Tr.lft σ.boxes))) 2)), .str (stringOf (nth (Tr.val [] (Tr.rgt (Tr.lft σ.boxes))) 3)), .bool (boolOf (nth (Tr.val [] (Tr.rgt (Tr.lft σ.boxes))) 4)), .str (stringOf (nth (Tr.val [] (Tr.rgt (Tr.lft σ.boxes))) 5)), .str (stringOf (nth (Tr.val [] (Tr.rgt (Tr.lft σ.boxes))) 6))]]) 6⟩ := by kernel_rfl
      rw [pathEq_eq hp]
      exact (h (intOf (Tr.val .undef (Tr.lft (Tr.rgt (Tr.lft σ.slots))))) (listOf .str (Tr.val .undef (Tr.rgt (Tr.lft (Tr.lft (Tr.lft σ.slots)))))) (intOf (Tr.val .undef (Tr.rgt (Tr.lft (Tr.lft (Tr.rgt σ.slots)))))) (intOf (Tr.val .undef (Tr.rgt (Tr.lft (Tr.rgt (Tr.lft σ.slots)))))) (intOf (nth (Tr.val [] (Tr.rgt (Tr.lft σ.boxes))) 0)) (intOf (nth (Tr.val [] (Tr.rgt (Tr.lft σ.boxes))) 1)) (intOf (nth (Tr.val [] (Tr.rgt (Tr.lft σ.boxes))) 2)) (stringOf (nth (Tr.val [] (Tr.rgt (Tr.lft σ.boxes))) 3)) (boolOf (nth (Tr.val [] (Tr.rgt (Tr.lft σ.boxes))) 4)) (stringOf (nth (Tr.val [] (Tr.rgt (Tr.lft σ.boxes))) 5)) (stringOf (nth (Tr.val [] (Tr.rgt (Tr.lft σ.boxes))) 6)) K).symm.trans (congrArg (fun s => (ev Try.prog cfg k).loop 97 0 κ [true, true, true, true, false, true, false] s K) (e.symm.trans (okSt_eq hs).symm))
    · rfl
  · rfl
theorem L97_0_k (gF139 : tF139) (gL97_0 : tL97_0) (cf : CallF) (lf : LoopF) (κ : Res → Option Res) (p0 : Int) (p1 : (List ByteArray)) (p2 : Int) (p3 : Int) (p4 : Int) (p5 : Int) (p6 : Int) (p7 : ByteArray) (p8 : Bool) (p9 : ByteArray) (p10 : ByteArray) (K : Cont) : evLp Try.prog cfg (F139_m gF139 cf) (L97_0_m gL97_0 lf) 97 0 κ [true, true, true, true, false, true, false] ⟨53, Tr.of (nthD .undef [.nilp, .undef, .undef, .undef, .undef, .ref 5 0, .undef, .undef, .undef, .int .i64 p0, .undef, .undef, .undef, .undef, .undef, .undef, .undef, .undef, .undef, .undef, .undef, .undef, .undef, .list .str p1 .no, .int .i64 p2, .int .i64 p3]) 6, Tr.of (nthD [] [[], [], [], [], [], [.int .i64 p4, .int .i64 p5, .int .i64 p6, .str p7, .bool p8, .str p9, .str p10]]) 6⟩ K = L97_0_B gF139 gL97_0 (fun x => κ ((.tup [.int .i64 x.1, .int .i64 x.2], []) : Res)) p0 p1 p2 p3 p4 p5 p6 p7 p8 p9 p10 (fun v => K (.exit 0) ⟨53, Tr.of (nthD .undef [.nilp, .undef, .undef, .undef, .undef, .ref 5 0, .undef, .undef, .undef, .int .i64 v.1, .undef, .undef, .undef, .undef, .undef, .undef, .undef, .undef, .undef, .undef, .undef, .undef, .undef, .list .str p1 .no, .int .i64 p2, .int .i64 v.2]) 6, Tr.of (nthD [] [[], [], [], [], [], [.int .i64 p4, .int .i64 p5, .int .i64 p6, .str p7, .bool p8, .str p9, .str p10]]) 6⟩) := by
  kernel_rfl
theorem L97_0_ev : ∀ (k : Nat) (κ : Res → Option Res) (p0 : Int) (p1 : (List ByteArray)) (p2 : Int) (p3 : Int) (p4 : Int) (p5 : Int) (p6 : Int) (p7 : ByteArray) (p8 : Bool) (p9 : ByteArray) (p10 : ByteArray) (K : Cont), (ev Try.prog cfg k).loop 97 0 κ [true, true, true, true, false, true, false] ⟨53, Tr.of (nthD .undef [.nilp, .undef, .undef, .undef, .undef, .ref 5 0, .undef, .undef, .undef, .int .i64 p0, .undef, .undef, .undef, .undef, .undef, .undef, .undef, .undef, .undef, .undef, .undef, .undef, .undef, .list .str p1 .no, .int .i64 p2, .int .i64 p3]) 6, Tr.of (nthD [] [[], [], [], [], [], [.int .i64 p4, .int .i64 p5, .int .i64 p6, .str p7, .bool p8, .str p9, .str p10]]) 6⟩ K = L97_0 k (fun x => κ ((.tup [.int .i64 x.1, .int .i64 x.2], []) : Res)) p0 p1 p2 p3 p4 p5 p6 p7 p8 p9 p10 (fun v => K (.exit 0) ⟨53, Tr.of (nthD .undef [.nilp, .undef, .undef, .undef, .undef, .ref 5 0, .undef, .undef, .undef, .int .i64 v.1, .undef, .undef, .undef, .undef, .undef, .undef, .undef, .undef, .undef, .undef, .undef, .undef, .undef, .list .str p1 .no, .int .i64 p2, .int .i64 v.2]) 6, Tr.of (nthD [] [[], [], [], [], [], [.int .i64 p4, .int .i64 p5, .int .i64 p6, .str p7, .bool p8, .str p9, .str p10]]) 6⟩) := by
  intro k κ
  induction k with
  | zero => intro p0 p1 p2 p3 p4 p5 p6 p7 p8 p9 p10 K; rfl
  | succ k ih =>
    intro p0 p1 p2 p3 p4 p5 p6 p7 p8 p9 p10 K
    rw [ev_loop, ← F139_d k (F139_ev k), ← L97_0_d k κ ih]
    exact L97_0_k _ _ _ _ κ p0 p1 p2 p3 p4 p5 p6 p7 p8 p9 p10 K
def F97_B (gF137 : tF137) (gF139 : tF139) (gL97_0 : tL97_0) (a1 : T3) (a2 : T7) (κ : Int × Int → Option Res) : Option Res :=
  chk3 (gF137 a1 a2.1 a2.2.1.1 a2.2.1.2.1 a2.2.1.2.2.1 a2.2.1.2.2.2 a2.2.2.1 a2.2.2.2 fun x1 =>
   chk2 (if decide (x1.1 < (0 : Int)) = true then
     (κ ((0 : Int), (3 : Int)))
    else
     (if (true && (decide ((0 : Int) ≤ x1.1) && decide (x1.1 < (a1.length : Int)))) = true then
      (chk1 (gL97_0 (0 : Int) ((a1.getD x1.1.toNat ((⟨#[]⟩ : ByteArray), ([] : List ByteArray))).2) (((a1.getD x1.1.toNat ((⟨#[]⟩ : ByteArray), ([] : List ByteArray))).2).length : Int) (0 : Int) x1.2.1 x1.2.2.1 x1.2.2.2.1 x1.2.2.2.2.1 x1.2.2.2.2.2.1 x1.2.2.2.2.2.2.1 x1.2.2.2.2.2.2.2 fun v3 =>
       chk1 (if (v3.1 == (0 : Int)) = true then
         (κ ((0 : Int), (10 : Int)))
        else
         (κ (v3.1, (0 : Int))))))
     else
      (none))))
/-- lamplighter/typing.field -/
def F97 : Nat → T3 → T7 → (Int × Int → Option Res) → Option Res
  | 0, _, _, _ => none
  | k + 1, a1, a2, κ => F97_B (F137 k) (F139 k) (L97_0 k κ) a1 a2 κ
def F97_s : List SC := [.one .nilp, .one (.list (.pair .str (.list .str)) .no), .agg [.int .i64, .int .i64, .int .i64, .str, .bool, .str, .str]]
def F97_b : List (List SC) := []
def F97_m (g : T3 → T7 → (Int × Int → Option Res) → Option Res) (cf : CallF) : CallF := fun f args lent κ => match Nat.beq f 97 with
  | true => match okC F97_s args && okB F97_b lent with
    | true => g (listOf (.pair .str (.list .str)) (nth args 1)) ((intOf (nth (aggOf (nth args 2)) 0)), (((intOf (nth (aggOf (nth args 2)) 1)), ((intOf (nth (aggOf (nth args 2)) 2)), ((stringOf (nth (aggOf (nth args 2)) 3)), (boolOf (nth (aggOf (nth args 2)) 4))))), ((stringOf (nth (aggOf (nth args 2)) 5)), (stringOf (nth (aggOf (nth args 2)) 6))))) (fun x => κ ((.tup [.int .i64 x.1, .int .i64 x.2], []) : Res))
    | false => cf f args lent κ
  | false => cf f args lent κ
theorem F97_d (k : Nat) (h : ∀ (a1 : T3) (a2 : T7) (κ : Res → Option Res), (ev Try.prog cfg k).call 97 [.nilp, .list (.pair .str (.list .str)) a1 .no, .agg [.int .i64 a2.1, .int .i64 a2.2.1.1, .int .i64 a2.2.1.2.1, .str a2.2.1.2.2.1, .bool a2.2.1.2.2.2, .str a2.2.2.1, .str a2.2.2.2]] [] κ = F97 k a1 a2 (fun x => κ ((.tup [.int .i64 x.1, .int .i64 x.2], []) : Res))) : F97_m (F97 k) (ev Try.prog cfg k).call = (ev Try.prog cfg k).call := by
  funext f args lent κ
  unfold F97_m
  split
  · rename_i hp
    split
    · rename_i hs
      rw [Bool.and_eq_true] at hs
      have e : mkC F97_s 0 args = [.nilp, .list (.pair .str (.list .str)) (listOf (.pair .str (.list .str)) (nth args 1)) .no, .agg [.int .i64 (intOf (nth (aggOf (nth args 2)) 0)), .int .i64 (intOf (nth (aggOf (nth args 2)) 1)), .int .i64 (intOf (nth (aggOf (nth args 2)) 2)), .str (stringOf (nth (aggOf (nth args 2)) 3)), .bool (boolOf (nth (aggOf (nth args 2)) 4)), .str (stringOf (nth (aggOf (nth args 2)) 5)), .str (stringOf (nth (aggOf (nth args 2)) 6))]] := by kernel_rfl
      have e' : mkB F97_b 0 lent = [] := by kernel_rfl
      obtain rfl := Nat.eq_of_beq_eq_true hp
      exact (h (listOf (.pair .str (.list .str)) (nth args 1)) ((intOf (nth (aggOf (nth args 2)) 0)), (((intOf (nth (aggOf (nth args 2)) 1)), ((intOf (nth (aggOf (nth args 2)) 2)), ((stringOf (nth (aggOf (nth args 2)) 3)), (boolOf (nth (aggOf (nth args 2)) 4))))), ((stringOf (nth (aggOf (nth args 2)) 5)), (stringOf (nth (aggOf (nth args 2)) 6))))) κ).symm.trans (cong2 (fun a l => (ev Try.prog cfg k).call 97 a l κ) (e.symm.trans (okC_eq hs.1).symm) (e'.symm.trans (okB_eq hs.2).symm))
    · rfl
  · rfl
theorem F97_k (gF137 : tF137) (gF139 : tF139) (gL97_0 : tL97_0) (cf : CallF) (lf : LoopF) (a1 : T3) (a2 : T7) (κ : Res → Option Res) : evFn Try.prog cfg (F137_m gF137 (F139_m gF139 cf)) (L97_0_m gL97_0 lf) 97 [.nilp, .list (.pair .str (.list .str)) a1 .no, .agg [.int .i64 a2.1, .int .i64 a2.2.1.1, .int .i64 a2.2.1.2.1, .str a2.2.1.2.2.1, .bool a2.2.1.2.2.2, .str a2.2.2.1, .str a2.2.2.2]] [] κ = F97_B gF137 gF139 gL97_0 a1 a2 (fun x => κ ((.tup [.int .i64 x.1, .int .i64 x.2], []) : Res)) := by
  kernel_rfl
theorem F97_ev : ∀ (k : Nat) (a1 : T3) (a2 : T7) (κ : Res → Option Res), (ev Try.prog cfg k).call 97 [.nilp, .list (.pair .str (.list .str)) a1 .no, .agg [.int .i64 a2.1, .int .i64 a2.2.1.1, .int .i64 a2.2.1.2.1, .str a2.2.1.2.2.1, .bool a2.2.1.2.2.2, .str a2.2.2.1, .str a2.2.2.2]] [] κ = F97 k a1 a2 (fun x => κ ((.tup [.int .i64 x.1, .int .i64 x.2], []) : Res)) := by
  intro k
  induction k with
  | zero => intros; rfl
  | succ k ih =>
    intro a1 a2 κ
    refine (ev_call' Try.prog cfg k 97 0 _ _ κ (by rfl)).trans ?_
    rw [← F137_d k (F137_ev k), ← F139_d k (F139_ev k), ← L97_0_d k κ (L97_0_ev k κ)]
    exact F97_k _ _ _ _ _ a1 a2 κ
def F142_B  (a0 : Int) (b0_0 : Int) (κ : Bool × Int → Option Res) : Option Res :=
  chk1 (κ ((a0 != b0_0), b0_0))
/-- lamplighter/typing.apply$1$1 -/
def F142 : Nat → Int → Int → (Bool × Int → Option Res) → Option Res
  | 0, _, _, _ => none
  | k + 1, a0, b0_0, κ => F142_B  a0 b0_0 κ
def F142_s : List SC := [.one (.int .i64), .one (.ref 0 0)]
def F142_b : List (List SC) := [[.one (.int .i64)]]
def F142_m (g : Int → Int → (Bool × Int → Option Res) → Option Res) (cf : CallF) : CallF := fun f args lent κ => match Nat.beq f 142 with
  | true => match okC F142_s args && okB F142_b lent with
    | true => g (intOf (nth args 0)) (intOf (nth (nthB lent 0) 0)) (fun x => κ ((.bool x.1, [[.int .i64 x.2]]) : Res))
    | false => cf f args lent κ
  | false => cf f args lent κ
theorem F142_d (k : Nat) (h : ∀ (a0 : Int) (b0_0 : Int) (κ : Res → Option Res), (ev Try.prog cfg k).call 142 [.int .i64 a0, .ref 0 0] [[.int .i64 b0_0]] κ = F142 k a0 b0_0 (fun x => κ ((.bool x.1, [[.int .i64 x.2]]) : Res))) : F142_m (F142 k) (ev Try.prog cfg k).call = (ev Try.prog cfg k).call := by
  funext f args lent κ
  unfold F142_m
  split
  · rename_i hp
    split
    · rename_i hs
      rw [Bool.and_eq_true] at hs
      have e : mkC F142_s 0 args = [.int .i64 (intOf (nth args 0)), .ref 0 0] := by kernel_rfl
      have e' : mkB F142_b 0 lent = [[.int .i64 (intOf (nth (nthB lent 0) 0))]] := by kernel_rfl
      obtain rfl := Nat.eq_of_beq_eq_true hp
      exact (h (intOf (nth args 0)) (intOf (nth (nthB lent 0) 0)) κ).symm.trans (cong2 (fun a l => (ev Try.prog cfg k).call 142 a l κ) (e.symm.trans (okC_eq hs.1).symm) (e'.symm.trans (okB_eq hs.2).symm))
    · rfl
  · rfl
theorem F142_k  (cf : CallF) (lf : LoopF) (a0 : Int) (b0_0 : Int) (κ : Res → Option Res) : evFn Try.prog cfg cf lf 142 [.int .i64 a0, .ref 0 0] [[.int .i64 b0_0]] κ = F142_B  a0 b0_0 (fun x => κ ((.bool x.1, [[.int .i64 x.2]]) : Res)) := by
  kernel_rfl
theorem F142_ev : ∀ (k : Nat) (a0 : Int) (b0_0 : Int) (κ : Res → Option Res), (ev Try.prog cfg k).call 142 [.int .i64 a0, .ref 0 0] [[.int .i64 b0_0]] κ = F142 k a0 b0_0 (fun x => κ ((.bool x.1, [[.int .i64 x.2]]) : Res)) := by
  intro k
  induction k with
  | zero => intros; rfl
  | succ k ih =>
    intro a0 b0_0 κ
    refine (ev_call' Try.prog cfg k 142 1 _ _ κ (by rfl)).trans ?_
    skip
    exact F142_k  _ _ a0 b0_0 κ
def L168_0_B (gF142 : tF142) (gL168_0 : tL168_0) (κ : Int × Int → Option Res) (p0 : (List Int)) (p1 : Int) (p2 : Int) (p3 : Int) (K : Int × Int → Option Res) : Option Res :=
  chk1 (if decide (p2 < p1) = true then
    (if (true && (decide ((0 : Int) ≤ p2) && decide (p2 < (p0.length : Int)))) = true then
     (chk1 (gF142 (p0.getD p2.toNat (0 : Int)) p3 fun x1 =>
      chk1 (if x1.1 = true then
        (κ (p2, x1.2))
       else
        (chk1 (gL168_0 p0 p1 (IntKind.wrap .i64 (p2 + (1 : Int))) x1.2 K)))))
    else
     (none))
   else
    (K (p2, p3)))
def L168_0 : Nat → (Int × Int → Option Res) → (List Int) → Int → Int → Int → (Int × Int → Option Res) → Option Res
  | 0, _, _, _, _, _, _ => none
  | k + 1, κ, p0, p1, p2, p3, K => L168_0_B (F142 k) (fun p0 p1 p2 p3 K => L168_0 k κ p0 p1 p2 p3 K) κ p0 p1 p2 p3 K
def L168_0_s : Tr SC := Tr.of (nthD (.one .undef) [.one (.list (.int .i64) .no), .fn 142 [.ref 19 0], .one .undef, .one .undef, .one .undef, .one .undef, .one .undef, .one (.int .i64), .one (.int .i64)]) 5
def L168_0_b : Tr (List SC) := Tr.of (nthD [] [[], [], [], [], [], [], [], [], [], [], [], [], [], [], [], [], [], [], [], [.one (.int .i64)]]) 5
def L168_0_m (g : (List Int) → Int → Int → Int → (Int × Int → Option Res) → Option Res) (lf : LoopF) : LoopF := fun p σ K => match pathEq p [true, false, true, false] with
  | true => match okSt 19 L168_0_s L168_0_b σ with
    | true => g (listOf (.int .i64) (Tr.val .undef σ.slots)) (intOf (Tr.val .undef (Tr.lft (Tr.lft (Tr.lft σ.slots))))) (intOf (Tr.val .undef (Tr.lft (Tr.lft (Tr.rgt σ.slots))))) (intOf (nth (Tr.val [] (Tr.lft (Tr.rgt (Tr.lft (Tr.lft σ.boxes))))) 0)) (fun v => K (.exit 0) ⟨19, Tr.of (nthD .undef [.list (.int .i64) (listOf (.int .i64) (Tr.val .undef σ.slots)) .no, .fn 142 [.ref 19 0], .undef, .undef, .undef, .undef, .undef, .int .i64 (intOf (Tr.val .undef (Tr.lft (Tr.lft (Tr.lft σ.slots))))), .int .i64 v.1]) 5, Tr.of (nthD [] [[], [], [], [], [], [], [], [], [], [], [], [], [], [], [], [], [], [], [], [.int .i64 v.2]]) 5⟩)
    | false => lf p σ K
  | false => lf p σ K
theorem L168_0_d (k : Nat) (κ : Res → Option Res) (h : ∀ (p0 : (List Int)) (p1 : Int) (p2 : Int) (p3 : Int) (K : Cont), (ev Try.prog cfg k).loop 168 1 κ [true, false, true, false] ⟨19, Tr.of (nthD .undef [.list (.int .i64) p0 .no, .fn 142 [.ref 19 0], .undef, .undef, .undef, .undef, .undef, .int .i64 p1, .int .i64 p2]) 5, Tr.of (nthD [] [[], [], [], [], [], [], [], [], [], [], [], [], [], [], [], [], [], [], [], [.int .i64 p3]]) 5⟩ K = L168_0 k (fun x => κ ((.int .i64 x.1, [[.int .i64 x.2]]) : Res)) p0 p1 p2 p3 (fun v => K (.exit 0) ⟨19, Tr.of (nthD .undef [.list (.int .i64) p0 .no, .fn 142 [.ref 19 0], .undef, .undef, .undef, .undef, .undef, .int .i64 p1, .int .i64 v.1]) 5, Tr.of (nthD [] [[], [], [], [], [], [], [], [], [], [], [], [], [], [], [], [], [], [], [], [.int .i64 v.2]]) 5⟩)) : L168_0_m (L168_0 k (fun x => κ ((.int .i64 x.1, [[.int .i64 x.2]]) : Res))) ((ev Try.prog cfg k).loop 168 1 κ) = (ev Try.prog cfg k).loop 168 1 κ := by
  funext p σ K
  unfold L168_0_m
  split
  · rename_i hp
    split
    · rename_i hs
      have e : mkSt 19 L168_0_s L168_0_b σ = ⟨19, Tr.of (nthD .undef [.list (.int .i64) (listOf (.int .i64) (Tr.val .undef σ.slots)) .no, .fn 142 [.ref 19 0], .undef, .undef, .undef, .undef, .undef, .int .i64 (intOf (Tr.val .undef (Tr.lft (Tr.lft (Tr.lft σ.slots))))), .int .i64 (intOf (Tr.val .undef (Tr.lft (Tr.lft (Tr.rgt σ.slots)))))]) 5, Tr.of (nthD [] [[], [], [], [], [], [], [], [], [], [], [], [], [], [], [], [], [], [], [], [.int .i64 (intOf (nth (Tr.val [] (Tr.lft (Tr.rgt (Tr.lft (Tr.lft σ.boxes))))) 0))]]) 5⟩ := by kernel_rfl
      rw [pathEq_eq hp]
      exact (h (listOf (.int .i64) (Tr.val .undef σ.slots)) (intOf (Tr.val .undef (Tr.lft (Tr.lft (Tr.lft σ.slots))))) (intOf (Tr.val .undef (Tr.lft (Tr.lft (Tr.rgt σ.slots))))) (intOf (nth (Tr.val [] (Tr.lft (Tr.rgt (Tr.lft (Tr.lft σ.boxes))))) 0)) K).symm.trans (congrArg (fun s => (ev Try.prog cfg k).loop 168 1 κ [true, false, true, false] s K) (e.symm.trans (okSt_eq hs).symm))
    · rfl
  · rfl
theorem L168_0_k (gF142 : tF142) (gL168_0 : tL168_0) (cf : CallF) (lf : LoopF) (κ : Res → Option Res) (p0 : (List Int)) (p1 : Int) (p2 : Int) (p3 : Int) (K : Cont) : evLp Try.prog cfg (F142_m gF142 cf) (L168_0_m gL168_0 lf) 168 1 κ [true, false, true, false] ⟨19, Tr.of (nthD .undef [.list (.int .i64) p0 .no, .fn 142 [.ref 19 0], .undef, .undef, .undef, .undef, .undef, .int .i64 p1, .int .i64 p2]) 5, Tr.of (nthD [] [[], [], [], [], [], [], [], [], [], [], [], [], [], [], [], [], [], [], [], [.int .i64 p3]]) 5⟩ K = L168_0_B gF142 gL168_0 (fun x => κ ((.int .i64 x.1, [[.int .i64 x.2]]) : Res)) p0 p1 p2 p3 (fun v => K (.exit 0) ⟨19, Tr.of (nthD .undef [.list (.int .i64) p0 .no, .fn 142 [.ref 19 0], .undef, .undef, .undef, .undef, .undef, .int .i64 p1, .int .i64 v.1]) 5, Tr.of (nthD [] [[], [], [], [], [], [], [], [], [], [], [], [], [], [], [], [], [], [], [], [.int .i64 v.2]]) 5⟩) := by
  kernel_rfl
theorem L168_0_ev : ∀ (k : Nat) (κ : Res → Option Res) (p0 : (List Int)) (p1 : Int) (p2 : Int) (p3 : Int) (K : Cont), (ev Try.prog cfg k).loop 168 1 κ [true, false, true, false] ⟨19, Tr.of (nthD .undef [.list (.int .i64) p0 .no, .fn 142 [.ref 19 0], .undef, .undef, .undef, .undef, .undef, .int .i64 p1, .int .i64 p2]) 5, Tr.of (nthD [] [[], [], [], [], [], [], [], [], [], [], [], [], [], [], [], [], [], [], [], [.int .i64 p3]]) 5⟩ K = L168_0 k (fun x => κ ((.int .i64 x.1, [[.int .i64 x.2]]) : Res)) p0 p1 p2 p3 (fun v => K (.exit 0) ⟨19, Tr.of (nthD .undef [.list (.int .i64) p0 .no, .fn 142 [.ref 19 0], .undef, .undef, .undef, .undef, .undef, .int .i64 p1, .int .i64 v.1]) 5, Tr.of (nthD [] [[], [], [], [], [], [], [], [], [], [], [], [], [], [], [], [], [], [], [], [.int .i64 v.2]]) 5⟩) := by
  intro k κ
  induction k with
  | zero => intro p0 p1 p2 p3 K; rfl
  | succ k ih =>
    intro p0 p1 p2 p3 K
    rw [ev_loop, ← F142_d k (F142_ev k), ← L168_0_d k κ ih]
    exact L168_0_k _ _ _ _ κ p0 p1 p2 p3 K
def F168_B (gF142 : tF142) (gL168_0 : tL168_0) (a0 : (List Int)) (b0_0 : Int) (κ : Int × Int → Option Res) : Option Res :=
  chk1 (gL168_0 a0 (a0.length : Int) (0 : Int) b0_0 fun v2 =>
   κ ((-1 : Int), v2.2))
/-- slices.IndexFunc[[]int,int] -/
def F168 : Nat → (List Int) → Int → (Int × Int → Option Res) → Option Res
  | 0, _, _, _ => none
  | k + 1, a0, b0_0, κ => F168_B (F142 k) (L168_0 k κ) a0 b0_0 κ
def F168_s : List SC := [.one (.list (.int .i64) .no), .fn 142 [.ref 0 0]]
def F168_b : List (List SC) := [[.one (.int .i64)]]
def F168_m (g : (List Int) → Int → (Int × Int → Option Res) → Option Res) (cf : CallF) : CallF := fun f args lent κ => match Nat.beq f 168 with
  | true => match okC F168_s args && okB F168_b lent with
    | true => g (listOf (.int .i64) (nth args 0)) (intOf (nth (nthB lent 0) 0)) (fun x => κ ((.int .i64 x.1, [[.int .i64 x.2]]) : Res))
    | false => cf f args lent κ
  | false => cf f args lent κ
theorem F168_d (k : Nat) (h : ∀ (a0 : (List Int)) (b0_0 : Int) (κ : Res → Option Res), (ev Try.prog cfg k).call 168 [.list (.int .i64) a0 .no, .fn 142 [.ref 0 0]] [[.int .i64 b0_0]] κ = F168 k a0 b0_0 (fun x => κ ((.int .i64 x.1, [[.int .i64 x.2]]) : Res))) : F168_m (F168 k) (ev Try.prog cfg k).call = (ev Try.prog cfg k).call := by
  funext f args lent κ
  unfold F168_m
  split
  · rename_i hp
    split
    · rename_i hs
      rw [Bool.and_eq_true] at hs
      have e : mkC F168_s 0 args = [.list (.int .i64) (listOf (.int .i64) (nth args 0)) .no, .fn 142 [.ref 0 0]] := by kernel_rfl
      have e' : mkB F168_b 0 lent = [[.int .i64 (intOf (nth (nthB lent 0) 0))]] := by kernel_rfl
      obtain rfl := Nat.eq_of_beq_eq_true hp
      exact (h (listOf (.int .i64) (nth args 0)) (intOf (nth (nthB lent 0) 0)) κ).symm.trans (cong2 (fun a l => (ev Try.prog cfg k).call 168 a l κ) (e.symm.trans (okC_eq hs.1).symm) (e'.symm.trans (okB_eq hs.2).symm))
    · rfl
  · rfl
theorem F168_k (gF142 : tF142) (gL168_0 : tL168_0) (cf : CallF) (lf : LoopF) (a0 : (List Int)) (b0_0 : Int) (κ : Res → Option Res) : evFn Try.prog cfg (F142_m gF142 cf) (L168_0_m gL168_0 lf) 168 [.list (.int .i64) a0 .no, .fn 142 [.ref 0 0]] [[.int .i64 b0_0]] κ = F168_B gF142 gL168_0 a0 b0_0 (fun x => κ ((.int .i64 x.1, [[.int .i64 x.2]]) : Res)) := by
  kernel_rfl
theorem F168_ev : ∀ (k : Nat) (a0 : (List Int)) (b0_0 : Int) (κ : Res → Option Res), (ev Try.prog cfg k).call 168 [.list (.int .i64) a0 .no, .fn 142 [.ref 0 0]] [[.int .i64 b0_0]] κ = F168 k a0 b0_0 (fun x => κ ((.int .i64 x.1, [[.int .i64 x.2]]) : Res)) := by
  intro k
  induction k with
  | zero => intros; rfl
  | succ k ih =>
    intro a0 b0_0 κ
    refine (ev_call' Try.prog cfg k 168 1 _ _ κ (by rfl)).trans ?_
    rw [← F142_d k (F142_ev k), ← L168_0_d k κ (L168_0_ev k κ)]
    exact F168_k _ _ _ _ a0 b0_0 κ
def F141_B (gF168 : tF168) (a0 : (List Int)) (b0_0 : Int) (κ : Bool × Int → Option Res) : Option Res :=
  chk1 (gF168 a0 b0_0 fun x1 =>
   chk2 (κ (decide (x1.1 ≥ (0 : Int)), x1.2)))
/-- slices.ContainsFunc[[]int,int] -/
def F141 : Nat → (List Int) → Int → (Bool × Int → Option Res) → Option Res
  | 0, _, _, _ => none
  | k + 1, a0, b0_0, κ => F141_B (F168 k) a0 b0_0 κ
def F141_s : List SC := [.one (.list (.int .i64) .no), .fn 142 [.ref 0 0]]
def F141_b : List (List SC) := [[.one (.int .i64)]]
def F141_m (g : (List Int) → Int → (Bool × Int → Option Res) → Option Res) (cf : CallF) : CallF := fun f args lent κ => match Nat.beq f 141 with
  | true => match okC F141_s args && okB F141_b lent with
    | true => g (listOf (.int .i64) (nth args 0)) (intOf (nth (nthB lent 0) 0)) (fun x => κ ((.bool x.1, [[.int .i64 x.2]]) : Res))
    | false => cf f args lent κ
  | false => cf f args lent κ
theorem F141_d (k : Nat) (h : ∀ (a0 : (List Int)) (b0_0 : Int) (κ : Res → Option Res), (ev Try.prog cfg k).call 141 [.list (.int .i64) a0 .no, .fn 142 [.ref 0 0]] [[.int .i64 b0_0]] κ = F141 k a0 b0_0 (fun x => κ ((.bool x.1, [[.int .i64 x.2]]) : Res))) : F141_m (F141 k) (ev Try.prog cfg k).call = (ev Try.prog cfg k).call := by
  funext f args lent κ
  unfold F141_m
  split
  · rename_i hp
    split
    · rename_i hs
      rw [Bool.and_eq_true] at hs
      have e : mkC F141_s 0 args = [.list (.int .i64) (listOf (.int .i64) (nth args 0)) .no, .fn 142 [.ref 0 0]] := by kernel_rfl
      have e' : mkB F141_b 0 lent = [[.int .i64 (intOf (nth (nthB lent 0) 0))]] := by kernel_rfl
      obtain rfl := Nat.eq_of_beq_eq_true hp
      exact (h (listOf (.int .i64) (nth args 0)) (intOf (nth (nthB lent 0) 0)) κ).symm.trans (cong2 (fun a l => (ev Try.prog cfg k).call 141 a l κ) (e.symm.trans (okC_eq hs.1).symm) (e'.symm.trans (okB_eq hs.2).symm))
    · rfl
  · rfl
theorem F141_k (gF168 : tF168) (cf : CallF) (lf : LoopF) (a0 : (List Int)) (b0_0 : Int) (κ : Res → Option Res) : evFn Try.prog cfg (F168_m gF168 cf) lf 141 [.list (.int .i64) a0 .no, .fn 142 [.ref 0 0]] [[.int .i64 b0_0]] κ = F141_B gF168 a0 b0_0 (fun x => κ ((.bool x.1, [[.int .i64 x.2]]) : Res)) := by
  kernel_rfl
theorem F141_ev : ∀ (k : Nat) (a0 : (List Int)) (b0_0 : Int) (κ : Res → Option Res), (ev Try.prog cfg k).call 141 [.list (.int .i64) a0 .no, .fn 142 [.ref 0 0]] [[.int .i64 b0_0]] κ = F141 k a0 b0_0 (fun x => κ ((.bool x.1, [[.int .i64 x.2]]) : Res)) := by
  intro k
  induction k with
  | zero => intros; rfl
  | succ k ih =>
    intro a0 b0_0 κ
    refine (ev_call' Try.prog cfg k 141 1 _ _ κ (by rfl)).trans ?_
    rw [← F168_d k (F168_ev k)]
    exact F141_k _ _ _ a0 b0_0 κ
def F140_B (gF141 : tF141) (a0 : Int) (b0_0 : (List Int)) (κ : Bool × (List Int) → Option Res) : Option Res :=
  chk3 (gF141 b0_0 a0 fun x1 =>
   chk1 (κ ((!x1.1), b0_0)))
/-- lamplighter/typing.apply$1 -/
def F140 : Nat → Int → (List Int) → (Bool × (List Int) → Option Res) → Option Res
  | 0, _, _, _ => none
  | k + 1, a0, b0_0, κ => F140_B (F141 k) a0 b0_0 κ
def F140_s : List SC := [.one (.int .i64), .one (.ref 0 0)]
def F140_b : List (List SC) := [[.one (.list (.int .i64) .no)]]
def F140_m (g : Int → (List Int) → (Bool × (List Int) → Option Res) → Option Res) (cf : CallF) : CallF := fun f args lent κ => match Nat.beq f 140 with
  | true => match okC F140_s args && okB F140_b lent with
    | true => g (intOf (nth args 0)) (listOf (.int .i64) (nth (nthB lent 0) 0)) (fun x => κ ((.bool x.1, [[.list (.int .i64) x.2 .no]]) : Res))
    | false => cf f args lent κ
  | false => cf f args lent κ
theorem F140_d (k : Nat) (h : ∀ (a0 : Int) (b0_0 : (List Int)) (κ : Res → Option Res), (ev Try.prog cfg k).call 140 [.int .i64 a0, .ref 0 0] [[.list (.int .i64) b0_0 .no]] κ = F140 k a0 b0_0 (fun x => κ ((.bool x.1, [[.list (.int .i64) x.2 .no]]) : Res))) : F140_m (F140 k) (ev Try.prog cfg k).call = (ev Try.prog cfg k).call := by
  funext f args lent κ
  unfold F140_m
  split
  · rename_i hp
    split
    · rename_i hs
      rw [Bool.and_eq_true] at hs
      have e : mkC F140_s 0 args = [.int .i64 (intOf (nth args 0)), .ref 0 0] := by kernel_rfl
      have e' : mkB F140_b 0 lent = [[.list (.int .i64) (listOf (.int .i64) (nth (nthB lent 0) 0)) .no]] := by kernel_rfl
      obtain rfl := Nat.eq_of_beq_eq_true hp
      exact (h (intOf (nth args 0)) (listOf (.int .i64) (nth (nthB lent 0) 0)) κ).symm.trans (cong2 (fun a l => (ev Try.prog cfg k).call 140 a l κ) (e.symm.trans (okC_eq hs.1).symm) (e'.symm.trans (okB_eq hs.2).symm))
    · rfl
  · rfl
theorem F140_k (gF141 : tF141) (cf : CallF) (lf : LoopF) (a0 : Int) (b0_0 : (List Int)) (κ : Res → Option Res) : evFn Try.prog cfg (F141_m gF141 cf) lf 140 [.int .i64 a0, .ref 0 0] [[.list (.int .i64) b0_0 .no]] κ = F140_B gF141 a0 b0_0 (fun x => κ ((.bool x.1, [[.list (.int .i64) x.2 .no]]) : Res)) := by
  kernel_rfl
theorem F140_ev : ∀ (k : Nat) (a0 : Int) (b0_0 : (List Int)) (κ : Res → Option Res), (ev Try.prog cfg k).call 140 [.int .i64 a0, .ref 0 0] [[.list (.int .i64) b0_0 .no]] κ = F140 k a0 b0_0 (fun x => κ ((.bool x.1, [[.list (.int .i64) x.2 .no]]) : Res)) := by
  intro k
  induction k with
  | zero => intros; rfl
  | succ k ih =>
    intro a0 b0_0 κ
    refine (ev_call' Try.prog cfg k 140 1 _ _ κ (by rfl)).trans ?_
    rw [← F141_d k (F141_ev k)]
    exact F140_k _ _ _ a0 b0_0 κ
def F98_B (gF140 : tF140) (a0 : Int) (a1 : (List Int)) (κ : Int → Option Res) : Option Res :=
  chk3 (if (a0 == (3 : Int)) = true then
    (chk2 (gF140 (1 : Int) a1 fun x1 =>
     chk1 (if x1.1 = true then
       (κ (1 : Int))
      else
       (κ (0 : Int)))))
   else
    (chk1 (if (a0 == (4 : Int)) = true then
      (chk2 (gF140 (1 : Int) a1 fun x2 =>
       chk1 (if x2.1 = true then
         (κ (1 : Int))
        else
         (κ (0 : Int)))))
     else
      (chk1 (if (a0 == (5 : Int)) = true then
        (chk2 (gF140 (1 : Int) a1 fun x3 =>
         chk1 (if x3.1 = true then
           (κ (1 : Int))
          else
           (κ (0 : Int)))))
       else
        (chk1 (if (a0 == (6 : Int)) = true then
          (chk1 (gF140 (1 : Int) a1 fun x4 =>
           chk1 (if x4.1 = true then
             (κ (1 : Int))
            else
             (κ (0 : Int)))))
         else
          (chk1 (if (a0 == (7 : Int)) = true then
            (chk1 (if (true && (true && decide ((0 : Int) < (a1.length : Int)))) = true then
              (if (true && (true && decide ((1 : Int) < (a1.length : Int)))) = true then
               (chk1 (if ((a1.getD (0 : Int).toNat (0 : Int)) == (a1.getD (1 : Int).toNat (0 : Int))) = true then
                 (κ (3 : Int))
                else
                 (κ (0 : Int))))
              else
               (none))
             else
              (none)))
           else
            (chk1 (if (a0 == (8 : Int)) = true then
              (chk1 (if (true && (true && decide ((0 : Int) < (a1.length : Int)))) = true then
                (if (true && (true && decide ((1 : Int) < (a1.length : Int)))) = true then
                 (chk1 (if ((a1.getD (0 : Int).toNat (0 : Int)) == (a1.getD (1 : Int).toNat (0 : Int))) = true then
                   (κ (3 : Int))
                  else
                   (κ (0 : Int))))
                else
                 (none))
               else
                (none)))
             else
              (chk1 (if (a0 == (9 : Int)) = true then
                (chk1 (if (true && (true && decide ((0 : Int) < (a1.length : Int)))) = true then
                  (if (true && (true && decide ((1 : Int) < (a1.length : Int)))) = true then
                   (chk1 (if ((a1.getD (0 : Int).toNat (0 : Int)) == (a1.getD (1 : Int).toNat (0 : Int))) = true then
                     (κ (3 : Int))
                    else
                     (κ (0 : Int))))
                  else
                   (none))
                 else
                  (none)))
               else
                (chk1 (if (a0 == (10 : Int)) = true then
                  (chk1 (if (true && (true && decide ((0 : Int) < (a1.length : Int)))) = true then
                    (if (true && (true && decide ((1 : Int) < (a1.length : Int)))) = true then
                     (chk1 (if ((a1.getD (0 : Int).toNat (0 : Int)) == (a1.getD (1 : Int).toNat (0 : Int))) = true then
                       (κ (3 : Int))
                      else
                       (κ (0 : Int))))
                    else
                     (none))
                   else
                    (none)))
                 else
                  (chk1 (if (a0 == (11 : Int)) = true then
                    (chk1 (if (true && (true && decide ((0 : Int) < (a1.length : Int)))) = true then
                      (if (true && (true && decide ((1 : Int) < (a1.length : Int)))) = true then
                       (chk1 (if ((a1.getD (0 : Int).toNat (0 : Int)) == (a1.getD (1 : Int).toNat (0 : Int))) = true then
                         (κ (3 : Int))
                        else
                         (κ (0 : Int))))
                      else
                       (none))
                     else
                      (none)))
                   else
                    (chk1 (if (a0 == (12 : Int)) = true then
                      (if (true && (true && decide ((0 : Int) < (a1.length : Int)))) = true then
                       (if (true && (true && decide ((1 : Int) < (a1.length : Int)))) = true then
                        (chk1 (if ((a1.getD (0 : Int).toNat (0 : Int)) == (a1.getD (1 : Int).toNat (0 : Int))) = true then
                          (κ (3 : Int))
                         else
                          (κ (0 : Int))))
                       else
                        (none))
                      else
                       (none))
                     else
                      (chk1 (if (a0 == (13 : Int)) = true then
                        (chk2 (gF140 (3 : Int) a1 fun x5 =>
                         chk1 (if x5.1 = true then
                           (κ (3 : Int))
                          else
                           (κ (0 : Int)))))
                       else
                        (chk1 (if (a0 == (14 : Int)) = true then
                          (chk2 (gF140 (3 : Int) a1 fun x6 =>
                           chk1 (if x6.1 = true then
                             (κ (3 : Int))
                            else
                             (κ (0 : Int)))))
                         else
                          (chk1 (if (a0 == (15 : Int)) = true then
                            (chk1 (gF140 (3 : Int) a1 fun x7 =>
                             chk1 (if x7.1 = true then
                               (κ (3 : Int))
                              else
                               (κ (0 : Int)))))
                           else
                            (κ (0 : Int)))))))))))))))))))))))))))
/-- lamplighter/typing.apply -/
def F98 : Nat → Int → (List Int) → (Int → Option Res) → Option Res
  | 0, _, _, _ => none
  | k + 1, a0, a1, κ => F98_B (F140 k) a0 a1 κ
def F98_s : List SC := [.one (.int .i64), .one (.list (.int .i64) .no)]
def F98_b : List (List SC) := []
def F98_m (g : Int → (List Int) → (Int → Option Res) → Option Res) (cf : CallF) : CallF := fun f args lent κ => match Nat.beq f 98 with
  | true => match okC F98_s args && okB F98_b lent with
    | true => g (intOf (nth args 0)) (listOf (.int .i64) (nth args 1)) (fun x => κ ((.int .i64 x, []) : Res))
    | false => cf f args lent κ
  | false => cf f args lent κ
theorem F98_d (k : Nat) (h : ∀ (a0 : Int) (a1 : (List Int)) (κ : Res → Option Res), (ev Try.prog cfg k).call 98 [.int .i64 a0, .list (.int .i64) a1 .no] [] κ = F98 k a0 a1 (fun x => κ ((.int .i64 x, []) : Res))) : F98_m (F98 k) (ev Try.prog cfg k).call = (ev Try.prog cfg k).call := by
  funext f args lent κ
  unfold F98_m
  split
  · rename_i hp
    split
    · rename_i hs
      rw [Bool.and_eq_true] at hs
      have e : mkC F98_s 0 args = [.int .i64 (intOf (nth args 0)), .list (.int .i64) (listOf (.int .i64) (nth args 1)) .no] := by kernel_rfl
      have e' : mkB F98_b 0 lent = [] := by kernel_rfl
      obtain rfl := Nat.eq_of_beq_eq_true hp
      exact (h (intOf (nth args 0)) (listOf (.int .i64) (nth args 1)) κ).symm.trans (cong2 (fun a l => (ev Try.prog cfg k).call 98 a l κ) (e.symm.trans (okC_eq hs.1).symm) (e'.symm.trans (okB_eq hs.2).symm))
    · rfl
  · rfl
theorem F98_k (gF140 : tF140) (cf : CallF) (lf : LoopF) (a0 : Int) (a1 : (List Int)) (κ : Res → Option Res) : evFn Try.prog cfg (F140_m gF140 cf) lf 98 [.int .i64 a0, .list (.int .i64) a1 .no] [] κ = F98_B gF140 a0 a1 (fun x => κ ((.int .i64 x, []) : Res)) := by
  kernel_rfl
theorem F98_ev : ∀ (k : Nat) (a0 : Int) (a1 : (List Int)) (κ : Res → Option Res), (ev Try.prog cfg k).call 98 [.int .i64 a0, .list (.int .i64) a1 .no] [] κ = F98 k a0 a1 (fun x => κ ((.int .i64 x, []) : Res)) := by
  intro k
  induction k with
  | zero => intros; rfl
  | succ k ih =>
    intro a0 a1 κ
    refine (ev_call' Try.prog cfg k 98 0 _ _ κ (by rfl)).trans ?_
    rw [← F140_d k (F140_ev k)]
    exact F98_k _ _ _ a0 a1 κ
def L43_0_B (gF96 : tF96) (gF97 : tF97) (gF98 : tF98) (gL43_0 : tL43_0) (κ : Int × Int → Option Res) (p0 : T3) (p1 : (List Int)) (p2 : T8) (p3 : Int) (p4 : Int) (K : (List Int) × Int → Option Res) : Option Res :=
  chk1 (if decide (p4 < p3) = true then
    (if (true && (decide ((0 : Int) ≤ p4) && decide (p4 < (p2.length : Int)))) = true then
     (chk5 (gF96 ((p2.getD p4.toNat ((0 : Int), (((0 : Int), ((0 : Int), ((⟨#[]⟩ : ByteArray), false))), ((⟨#[]⟩ : ByteArray), (⟨#[]⟩ : ByteArray))))).1) fun x2 =>
      chk3 (if (((p2.getD p4.toNat ((0 : Int), (((0 : Int), ((0 : Int), ((⟨#[]⟩ : ByteArray), false))), ((⟨#[]⟩ : ByteArray), (⟨#[]⟩ : ByteArray))))).1) == (1 : Int)) = true then
        (chk1 (if (((((p2.getD p4.toNat ((0 : Int), (((0 : Int), ((0 : Int), ((⟨#[]⟩ : ByteArray), false))), ((⟨#[]⟩ : ByteArray), (⟨#[]⟩ : ByteArray))))).2).1).1) == (0 : Int)) = true then
          (κ ((0 : Int), (10 : Int)))
         else
          (if (true && (decide ((0 : Int) ≤ (IntKind.wrap .i64 ((p1.length : Int) - x2))) && (decide ((IntKind.wrap .i64 ((p1.length : Int) - x2)) ≤ (p1.length : Int)) && decide ((IntKind.wrap .i64 ((p1.length : Int) - x2)) = (IntKind.wrap .i64 ((p1.length : Int) - x2)))))) = true then chk3 (if decide ((((p1.take (IntKind.wrap .i64 ((p1.length : Int) - x2)).toNat).drop (0 : Int).toNat).length + ([(((p2.getD p4.toNat ((0 : Int), (((0 : Int), ((0 : Int), ((⟨#[]⟩ : ByteArray), false))), ((⟨#[]⟩ : ByteArray), (⟨#[]⟩ : ByteArray))))).2).1).1] : List Int).length) * 8 ≤ 140737488355328) = true then chk1 (gL43_0 p0 (((p1.take (IntKind.wrap .i64 ((p1.length : Int) - x2)).toNat).drop (0 : Int).toNat) ++ ([(((p2.getD p4.toNat ((0 : Int), (((0 : Int), ((0 : Int), ((⟨#[]⟩ : ByteArray), false))), ((⟨#[]⟩ : ByteArray), (⟨#[]⟩ : ByteArray))))).2).1).1] : List Int)) p2 p3 (IntKind.wrap .i64 (p4 + (1 : Int))) K) else none) else none)))
       else
        (chk1 (if (((p2.getD p4.toNat ((0 : Int), (((0 : Int), ((0 : Int), ((⟨#[]⟩ : ByteArray), false))), ((⟨#[]⟩ : ByteArray), (⟨#[]⟩ : ByteArray))))).1) == (2 : Int)) = true then
          (chk1 (gF97 p0 ((p2.getD p4.toNat ((0 : Int), (((0 : Int), ((0 : Int), ((⟨#[]⟩ : ByteArray), false))), ((⟨#[]⟩ : ByteArray), (⟨#[]⟩ : ByteArray))))).1, (((((p2.getD p4.toNat ((0 : Int), (((0 : Int), ((0 : Int), ((⟨#[]⟩ : ByteArray), false))), ((⟨#[]⟩ : ByteArray), (⟨#[]⟩ : ByteArray))))).2).1).1, (((((p2.getD p4.toNat ((0 : Int), (((0 : Int), ((0 : Int), ((⟨#[]⟩ : ByteArray), false))), ((⟨#[]⟩ : ByteArray), (⟨#[]⟩ : ByteArray))))).2).1).2).1, (((((p2.getD p4.toNat ((0 : Int), (((0 : Int), ((0 : Int), ((⟨#[]⟩ : ByteArray), false))), ((⟨#[]⟩ : ByteArray), (⟨#[]⟩ : ByteArray))))).2).1).2).2))), (((p2.getD p4.toNat ((0 : Int), (((0 : Int), ((0 : Int), ((⟨#[]⟩ : ByteArray), false))), ((⟨#[]⟩ : ByteArray), (⟨#[]⟩ : ByteArray))))).2).2))) fun x3 =>
           chk2 (if (x3.2 != (0 : Int)) = true then
             (κ ((0 : Int), x3.2))
            else
             (chk1 (if (x3.1 == (0 : Int)) = true then
               (κ ((0 : Int), (10 : Int)))
              else
               (if (true && (decide ((0 : Int) ≤ (IntKind.wrap .i64 ((p1.length : Int) - x2))) && (decide ((IntKind.wrap .i64 ((p1.length : Int) - x2)) ≤ (p1.length : Int)) && decide ((IntKind.wrap .i64 ((p1.length : Int) - x2)) = (IntKind.wrap .i64 ((p1.length : Int) - x2)))))) = true then chk3 (if decide ((((p1.take (IntKind.wrap .i64 ((p1.length : Int) - x2)).toNat).drop (0 : Int).toNat).length + ([x3.1] : List Int).length) * 8 ≤ 140737488355328) = true then chk1 (gL43_0 p0 (((p1.take (IntKind.wrap .i64 ((p1.length : Int) - x2)).toNat).drop (0 : Int).toNat) ++ ([x3.1] : List Int)) p2 p3 (IntKind.wrap .i64 (p4 + (1 : Int))) K) else none) else none))))))
         else
          (if ((true && decide ((0 : Int) ≤ (IntKind.wrap .i64 ((p1.length : Int) - x2)))) && (decide ((IntKind.wrap .i64 ((p1.length : Int) - x2)) ≤ (p1.length : Int)) && decide ((p1.length : Int) ≤ (p1.length : Int)))) = true then
           (chk1 (gF98 ((p2.getD p4.toNat ((0 : Int), (((0 : Int), ((0 : Int), ((⟨#[]⟩ : ByteArray), false))), ((⟨#[]⟩ : ByteArray), (⟨#[]⟩ : ByteArray))))).1) ((p1.take (p1.length : Int).toNat).drop (IntKind.wrap .i64 ((p1.length : Int) - x2)).toNat) fun x4 =>
            chk2 (if (x4 == (0 : Int)) = true then
              (κ ((0 : Int), (10 : Int)))
             else
              (if (true && (decide ((0 : Int) ≤ (IntKind.wrap .i64 ((p1.length : Int) - x2))) && (decide ((IntKind.wrap .i64 ((p1.length : Int) - x2)) ≤ (p1.length : Int)) && decide ((IntKind.wrap .i64 ((p1.length : Int) - x2)) = (IntKind.wrap .i64 ((p1.length : Int) - x2)))))) = true then chk3 (if decide ((((p1.take (IntKind.wrap .i64 ((p1.length : Int) - x2)).toNat).drop (0 : Int).toNat).length + ([x4] : List Int).length) * 8 ≤ 140737488355328) = true then chk1 (gL43_0 p0 (((p1.take (IntKind.wrap .i64 ((p1.length : Int) - x2)).toNat).drop (0 : Int).toNat) ++ ([x4] : List Int)) p2 p3 (IntKind.wrap .i64 (p4 + (1 : Int))) K) else none) else none))))
          else
           (none)))))))
    else
     (none))
   else
    (K (p1, p4)))
def L43_0 : Nat → (Int × Int → Option Res) → T3 → (List Int) → T8 → Int → Int → ((List Int) × Int → Option Res) → Option Res
  | 0, _, _, _, _, _, _, _ => none
  | k + 1, κ, p0, p1, p2, p3, p4, K => L43_0_B (F96 k) (F97 k) (F98 k) (fun p0 p1 p2 p3 p4 K => L43_0 k κ p0 p1 p2 p3 p4 K) κ p0 p1 p2 p3 p4 K
def L43_0_s : Tr SC := Tr.of (nthD (.one .undef) [.one .nilp, .one (.list (.pair .str (.list .str)) .no), .one .undef, .one .undef, .one .undef, .one .undef, .one .undef, .one .undef, .one (.list (.int .i64) (.own true false)), .one .undef, .one .undef, .one .undef, .one .undef, .one .undef, .one .undef, .one .undef, .one .undef, .one (.list (.pair (.int .i64) (.pair (.pair (.int .i64) (.pair (.int .i64) (.pair .str .bool))) (.pair .str .str))) .no), .one (.int .i64), .one (.int .i64)]) 7
def L43_0_b : Tr (List SC) := Tr.of (nthD [] []) 7
def L43_0_m (g : T3 → (List Int) → T8 → Int → Int → ((List Int) × Int → Option Res) → Option Res) (lf : LoopF) : LoopF := fun p σ K => match pathEq p [true, true, true, false, true, false] with
  | true => match okSt 67 L43_0_s L43_0_b σ with
    | true => g (listOf (.pair .str (.list .str)) (Tr.val .undef (Tr.lft σ.slots))) (listOf (.int .i64) (Tr.val .undef (Tr.lft (Tr.lft (Tr.rgt σ.slots))))) (listOf (.pair (.int .i64) (.pair (.pair (.int .i64) (.pair (.int .i64) (.pair .str .bool))) (.pair .str .str))) (Tr.val .undef (Tr.lft (Tr.lft (Tr.rgt (Tr.lft σ.slots)))))) (intOf (Tr.val .undef (Tr.lft (Tr.lft (Tr.rgt (Tr.rgt σ.slots)))))) (intOf (Tr.val .undef (Tr.lft (Tr.rgt (Tr.lft (Tr.lft σ.slots)))))) (fun v => K (.exit 0) ⟨67, Tr.of (nthD .undef [.nilp, .list (.pair .str (.list .str)) (listOf (.pair .str (.list .str)) (Tr.val .undef (Tr.lft σ.slots))) .no, .undef, .undef, .undef, .undef, .undef, .undef, .list (.int .i64) v.1 (.own true false), .undef, .undef, .undef, .undef, .undef, .undef, .undef, .undef, .list (.pair (.int .i64) (.pair (.pair (.int .i64) (.pair (.int .i64) (.pair .str .bool))) (.pair .str .str))) (listOf (.pair (.int .i64) (.pair (.pair (.int .i64) (.pair (.int .i64) (.pair .str .bool))) (.pair .str .str))) (Tr.val .undef (Tr.lft (Tr.lft (Tr.rgt (Tr.lft σ.slots)))))) .no, .int .i64 (intOf (Tr.val .undef (Tr.lft (Tr.lft (Tr.rgt (Tr.rgt σ.slots)))))), .int .i64 v.2]) 7, Tr.of (nthD [] []) 7⟩)
    | false => lf p σ K
  | false => lf p σ K
theorem L43_0_d (k : Nat) (κ : Res → Option Res) (h : ∀ (p0 : T3) (p1 : (List Int)) (p2 : T8) (p3 : Int) (p4 : Int) (K : Cont), (ev Try.prog cfg k).loop 43 0 κ [true, true, true, false, true, false] ⟨67, Tr.of (nthD .undef [.nilp, .list (.pair .str (.list .str)) p0 .no, .undef, .undef, .undef, .undef, .undef, .undef, .list (.int .i64) p1 (.own true false), .undef, .undef, .undef, .undef, .undef, .undef, .undef, .undef, .list (.pair (.int .i64) (.pair (.pair (.int .i64) (.pair (.int .i64) (.pair .str .bool))) (.pair .str .str))) p2 .no, .int .i64 p3, .int .i64 p4]) 7, Tr.of (nthD [] []) 7⟩ K = L43_0 k (fun x => κ ((.tup [.int .i64 x.1, .int .i64 x.2], []) : Res)) p0 p1 p2 p3 p4 (fun v => K (.exit 0) ⟨67, Tr.of (nthD .undef [.nilp, .list (.pair .str (.list .str)) p0 .no, .undef, .undef, .undef, .undef, .undef, .undef, .list (.int .i64) v.1 (.own true false), .undef, .undef, .undef, .undef, .undef, .undef, .undef, .undef, .list (.pair (.int .i64) (.pair (.pair (.int .i64) (.pair (.int .i64) (.pair .str .bool))) (.pair .str .str))) p2 .no, .int .i64 p3, .int .i64 v.2]) 7, Tr.of (nthD [] []) 7⟩)) : L43_0_m (L43_0 k (fun x => κ ((.tup [.int .i64 x.1, .int .i64 x.2], []) : Res))) ((ev Try.prog cfg k).loop 43 0 κ) = (ev Try.prog cfg k).loop 43 0 κ := by
  funext p σ K
  unfold L43_0_m
  split
  · rename_i hp
    split
    · rename_i hs
      have e : mkSt 67 L43_0_s L43_0_b σ = ⟨67, Tr.of (nthD .undef [.nilp, .list (.pair .str (.list .str)) (listOf (.pair .str (.list .str)) (Tr.val .undef (Tr.lft σ.slots))) .no, .undef, .undef, .undef, .undef, .undef, .undef, .list (.int .i64) (listOf (.int .i64) (Tr.val .undef (Tr.lft (Tr.lft (Tr.rgt σ.slots))))) (.own true false), .undef, .undef, .undef, .undef, .undef, .undef, .undef, .undef, .list (.pair (.int .i64) (.pair (.pair (.int .i64) (.pair (.int .i64) (.pair .str .bool))) (.pair .str .str))) (listOf (.pair (.int .i64) (.pair (.pair (.int .i64) (.pair (.int .i64) (.pair .str .bool))) (.pair .str .str))) (Tr.val .undef (Tr.lft (Tr.lft (Tr.rgt (Tr.lft σ.slots)))))) .no, .int .i64 (intOf (Tr.val .undef (Tr.lft (Tr.lft (Tr.rgt (Tr.rgt σ.slots)))))), .int .i64 (intOf (Tr.val .undef (Tr.lft (Tr.rgt (Tr.lft (Tr.lft σ.slots))))))]) 7, Tr.of (nthD [] []) 7⟩ := by kernel_rfl
      rw [pathEq_eq hp]
      exact (h (listOf (.pair .str (.list .str)) (Tr.val .undef (Tr.lft σ.slots))) (listOf (.int .i64) (Tr.val .undef (Tr.lft (Tr.lft (Tr.rgt σ.slots))))) (listOf (.pair (.int .i64) (.pair (.pair (.int .i64) (.pair (.int .i64) (.pair .str .bool))) (.pair .str .str))) (Tr.val .undef (Tr.lft (Tr.lft (Tr.rgt (Tr.lft σ.slots)))))) (intOf (Tr.val .undef (Tr.lft (Tr.lft (Tr.rgt (Tr.rgt σ.slots)))))) (intOf (Tr.val .undef (Tr.lft (Tr.rgt (Tr.lft (Tr.lft σ.slots)))))) K).symm.trans (congrArg (fun s => (ev Try.prog cfg k).loop 43 0 κ [true, true, true, false, true, false] s K) (e.symm.trans (okSt_eq hs).symm))
    · rfl
  · rfl
theorem L43_0_k (gF96 : tF96) (gF97 : tF97) (gF98 : tF98) (gL43_0 : tL43_0) (cf : CallF) (lf : LoopF) (κ : Res → Option Res) (p0 : T3) (p1 : (List Int)) (p2 : T8) (p3 : Int) (p4 : Int) (K : Cont) : evLp Try.prog cfg (F96_m gF96 (F97_m gF97 (F98_m gF98 cf))) (L43_0_m gL43_0 lf) 43 0 κ [true, true, true, false, true, false] ⟨67, Tr.of (nthD .undef [.nilp, .list (.pair .str (.list .str)) p0 .no, .undef, .undef, .undef, .undef, .undef, .undef, .list (.int .i64) p1 (.own true false), .undef, .undef, .undef, .undef, .undef, .undef, .undef, .undef, .list (.pair (.int .i64) (.pair (.pair (.int .i64) (.pair (.int .i64) (.pair .str .bool))) (.pair .str .str))) p2 .no, .int .i64 p3, .int .i64 p4]) 7, Tr.of (nthD [] []) 7⟩ K = L43_0_B gF96 gF97 gF98 gL43_0 (fun x => κ ((.tup [.int .i64 x.1, .int .i64 x.2], []) : Res)) p0 p1 p2 p3 p4 (fun v => K (.exit 0) ⟨67, Tr.of (nthD .undef [.nilp, .list (.pair .str (.list .str)) p0 .no, .undef, .undef, .undef, .undef, .undef, .undef, .list (.int .i64) v.1 (.own true false), .undef, .undef, .undef, .undef, .undef, .undef, .undef, .undef, .list (.pair (.int .i64) (.pair (.pair (.int .i64) (.pair (.int .i64) (.pair .str .bool))) (.pair .str .str))) p2 .no, .int .i64 p3, .int .i64 v.2]) 7, Tr.of (nthD [] []) 7⟩) := by
  kernel_rfl
theorem L43_0_ev : ∀ (k : Nat) (κ : Res → Option Res) (p0 : T3) (p1 : (List Int)) (p2 : T8) (p3 : Int) (p4 : Int) (K : Cont), (ev Try.prog cfg k).loop 43 0 κ [true, true, true, false, true, false] ⟨67, Tr.of (nthD .undef [.nilp, .list (.pair .str (.list .str)) p0 .no, .undef, .undef, .undef, .undef, .undef, .undef, .list (.int .i64) p1 (.own true false), .undef, .undef, .undef, .undef, .undef, .undef, .undef, .undef, .list (.pair (.int .i64) (.pair (.pair (.int .i64) (.pair (.int .i64) (.pair .str .bool))) (.pair .str .str))) p2 .no, .int .i64 p3, .int .i64 p4]) 7, Tr.of (nthD [] []) 7⟩ K = L43_0 k (fun x => κ ((.tup [.int .i64 x.1, .int .i64 x.2], []) : Res)) p0 p1 p2 p3 p4 (fun v => K (.exit 0) ⟨67, Tr.of (nthD .undef [.nilp, .list (.pair .str (.list .str)) p0 .no, .undef, .undef, .undef, .undef, .undef, .undef, .list (.int .i64) v.1 (.own true false), .undef, .undef, .undef, .undef, .undef, .undef, .undef, .undef, .list (.pair (.int .i64) (.pair (.pair (.int .i64) (.pair (.int .i64) (.pair .str .bool))) (.pair .str .str))) p2 .no, .int .i64 p3, .int .i64 v.2]) 7, Tr.of (nthD [] []) 7⟩) := by
  intro k κ
  induction k with
  | zero => intro p0 p1 p2 p3 p4 K; rfl
  | succ k ih =>
    intro p0 p1 p2 p3 p4 K
    rw [ev_loop, ← F96_d k (F96_ev k), ← F97_d k (F97_ev k), ← F98_d k (F98_ev k), ← L43_0_d k κ ih]
    exact L43_0_k _ _ _ _ _ _ κ p0 p1 p2 p3 p4 K
def F43_B (gF95 : tF95) (gF96 : tF96) (gF97 : tF97) (gF98 : tF98) (gL43_0 : tL43_0) (a1 : T3) (a2 : T8) (κ : Int × Int → Option Res) : Option Res :=
  chk1 (gF95 a2 fun x1 =>
   chk1 (if (!x1) = true then
     (κ ((0 : Int), (1 : Int)))
    else
     (chk1 (gL43_0 a1 ([] : List Int) a2 (a2.length : Int) (0 : Int) fun v5 =>
      if (true && (true && decide ((0 : Int) < (v5.1.length : Int)))) = true then κ ((v5.1.getD (0 : Int).toNat (0 : Int)), (0 : Int)) else none))))
/-- lamplighter/typing.Kind -/
def F43 : Nat → T3 → T8 → (Int × Int → Option Res) → Option Res
  | 0, _, _, _ => none
  | k + 1, a1, a2, κ => F43_B (F95 k) (F96 k) (F97 k) (F98 k) (L43_0 k κ) a1 a2 κ
def F43_s : List SC := [.one .nilp, .one (.list (.pair .str (.list .str)) .no), .one (.list (.pair (.int .i64) (.pair (.pair (.int .i64) (.pair (.int .i64) (.pair .str .bool))) (.pair .str .str))) .no)]
def F43_b : List (List SC) := []
def F43_m (g : T3 → T8 → (Int × Int → Option Res) → Option Res) (cf : CallF) : CallF := fun f args lent κ => match Nat.beq f 43 with
  | true => match okC F43_s args && okB F43_b lent with
    | true => g (listOf (.pair .str (.list .str)) (nth args 1)) (listOf (.pair (.int .i64) (.pair (.pair (.int .i64) (.pair (.int .i64) (.pair .str .bool))) (.pair .str .str))) (nth args 2)) (fun x => κ ((.tup [.int .i64 x.1, .int .i64 x.2], []) : Res))
    | false => cf f args lent κ
  | false => cf f args lent κ
theorem F43_d (k : Nat) (h : ∀ (a1 : T3) (a2 : T8) (κ : Res → Option Res), (ev Try.prog cfg k).call 43 [.nilp, .list (.pair .str (.list .str)) a1 .no, .list (.pair (.int .i64) (.pair (.pair (.int .i64) (.pair (.int .i64) (.pair .str .bool))) (.pair .str .str))) a2 .no] [] κ = F43 k a1 a2 (fun x => κ ((.tup [.int .i64 x.1, .int .i64 x.2], []) : Res))) : F43_m (F43 k) (ev Try.prog cfg k).call = (ev Try.prog cfg k).call := by
  funext f args lent κ
  unfold F43_m
  split
  · rename_i hp
    split
    · rename_i hs
      rw [Bool.and_eq_true] at hs
      have e : mkC F43_s 0 args = [.nilp, .list (.pair .str (.list .str)) (listOf (.pair .str (.list .str)) (nth args 1)) .no, .list (.pair (.int .i64) (.pair (.pair (.int .i64) (.pair (.int .i64) (.pair .str .bool))) (.pair .str .str))) (listOf (.pair (.int .i64) (.pair (.pair (.int .i64) (.pair (.int .i64) (.pair .str .bool))) (.pair .str .str))) (nth args 2)) .no] := by kernel_rfl
      have e' : mkB F43_b 0 lent = [] := by kernel_rfl
      obtain rfl := Nat.eq_of_beq_eq_true hp
      exact (h (listOf (.pair .str (.list .str)) (nth args 1)) (listOf (.pair (.int .i64) (.pair (.pair (.int .i64) (.pair (.int .i64) (.pair .str .bool))) (.pair .str .str))) (nth args 2)) κ).symm.trans (cong2 (fun a l => (ev Try.prog cfg k).call 43 a l κ) (e.symm.trans (okC_eq hs.1).symm) (e'.symm.trans (okB_eq hs.2).symm))
    · rfl
  · rfl
theorem F43_k (gF95 : tF95) (gF96 : tF96) (gF97 : tF97) (gF98 : tF98) (gL43_0 : tL43_0) (cf : CallF) (lf : LoopF) (a1 : T3) (a2 : T8) (κ : Res → Option Res) : evFn Try.prog cfg (F95_m gF95 (F96_m gF96 (F97_m gF97 (F98_m gF98 cf)))) (L43_0_m gL43_0 lf) 43 [.nilp, .list (.pair .str (.list .str)) a1 .no, .list (.pair (.int .i64) (.pair (.pair (.int .i64) (.pair (.int .i64) (.pair .str .bool))) (.pair .str .str))) a2 .no] [] κ = F43_B gF95 gF96 gF97 gF98 gL43_0 a1 a2 (fun x => κ ((.tup [.int .i64 x.1, .int .i64 x.2], []) : Res)) := by
  kernel_rfl
theorem F43_ev : ∀ (k : Nat) (a1 : T3) (a2 : T8) (κ : Res → Option Res), (ev Try.prog cfg k).call 43 [.nilp, .list (.pair .str (.list .str)) a1 .no, .list (.pair (.int .i64) (.pair (.pair (.int .i64) (.pair (.int .i64) (.pair .str .bool))) (.pair .str .str))) a2 .no] [] κ = F43 k a1 a2 (fun x => κ ((.tup [.int .i64 x.1, .int .i64 x.2], []) : Res)) := by
  intro k
  induction k with
  | zero => intros; rfl
  | succ k ih =>
    intro a1 a2 κ
    refine (ev_call' Try.prog cfg k 43 0 _ _ κ (by rfl)).trans ?_
    rw [← F95_d k (F95_ev k), ← F96_d k (F96_ev k), ← F97_d k (F97_ev k), ← F98_d k (F98_ev k), ← L43_0_d k κ (L43_0_ev k κ)]
    exact F43_k _ _ _ _ _ _ _ a1 a2 κ
def L139v1_0_B (gL139v1_0 : tL139v1_0) (κ : Int × Int × T5 → Option Res) (p0 : ByteArray) (p1 : (List (ByteArray × Int))) (p2 : Int) (p3 : Int) (p4 : T5) (K : Int → Option Res) : Option Res :=
  chk1 (if decide (p3 < p2) = true then
    (if (true && (decide ((0 : Int) ≤ p3) && decide (p3 < (p1.length : Int)))) = true then
     (chk4 (if (((p1.getD p3.toNat ((⟨#[]⟩ : ByteArray), (0 : Int))).1).toList == p0.toList) = true then
       (κ (p3, ((p1.getD p3.toNat ((⟨#[]⟩ : ByteArray), (0 : Int))).2, p4)))
      else
       (chk1 (gL139v1_0 p0 p1 p2 (IntKind.wrap .i64 (p3 + (1 : Int))) p4 K))))
    else
     (none))
   else
    (K p3))
def L139v1_0 : Nat → (Int × Int × T5 → Option Res) → ByteArray → (List (ByteArray × Int)) → Int → Int → T5 → (Int → Option Res) → Option Res
  | 0, _, _, _, _, _, _, _ => none
  | k + 1, κ, p0, p1, p2, p3, p4, K => L139v1_0_B (fun p0 p1 p2 p3 p4 K => L139v1_0 k κ p0 p1 p2 p3 p4 K) κ p0 p1 p2 p3 p4 K
def L139v1_0_s : Tr SC := Tr.of (nthD (.one .undef) [.one .undef, .one .undef, .one .str, .one .undef, .one .undef, .one .undef, .one .undef, .one .undef, .one .undef, .one .undef, .one .undef, .one .undef, .one .undef, .one .undef, .one .undef, .one .undef, .one .undef, .one .undef, .one .undef, .one (.list (.pair .str (.int .i64)) .no), .one (.int .i64), .one (.int .i64)]) 6
def L139v1_0_b : Tr (List SC) := Tr.of (nthD [] [[], [], [], [], [], [], [], [], [], [], [], [], [], [], [], [], [], [], [], [], [], [], [], [], [], [], [], [], [], [], [], [], [], [], [.one (.list (.pair .str (.list (.pair .str (.int .i64)))) (.own false false))]]) 6
def L139v1_0_m (g : ByteArray → (List (ByteArray × Int)) → Int → Int → T5 → (Int → Option Res) → Option Res) (lf : LoopF) : LoopF := fun p σ K => match pathEq p [true, true, false, true, false] with
  | true => match okSt 34 L139v1_0_s L139v1_0_b σ with
    | true => g (stringOf (Tr.val .undef (Tr.rgt σ.slots))) (listOf (.pair .str (.int .i64)) (Tr.val .undef (Tr.lft (Tr.rgt (Tr.lft (Tr.lft σ.slots)))))) (intOf (Tr.val .undef (Tr.lft (Tr.rgt (Tr.lft (Tr.rgt σ.slots)))))) (intOf (Tr.val .undef (Tr.lft (Tr.rgt (Tr.rgt (Tr.lft σ.slots)))))) (listOf (.pair .str (.list (.pair .str (.int .i64)))) (nth (Tr.val [] (Tr.lft (Tr.lft (Tr.lft (Tr.rgt (Tr.rgt σ.boxes)))))) 0)) (fun v => K (.exit 0) ⟨34, Tr.of (nthD .undef [.undef, .undef, .str (stringOf (Tr.val .undef (Tr.rgt σ.slots))), .undef, .undef, .undef, .undef, .undef, .undef, .undef, .undef, .undef, .undef, .undef, .undef, .undef, .undef, .undef, .undef, .list (.pair .str (.int .i64)) (listOf (.pair .str (.int .i64)) (Tr.val .undef (Tr.lft (Tr.rgt (Tr.lft (Tr.lft σ.slots)))))) .no, .int .i64 (intOf (Tr.val .undef (Tr.lft (Tr.rgt (Tr.lft (Tr.rgt σ.slots)))))), .int .i64 v]) 6, Tr.of (nthD [] [[], [], [], [], [], [], [], [], [], [], [], [], [], [], [], [], [], [], [], [], [], [], [], [], [], [], [], [], [], [], [], [], [], [], [.list (.pair .str (.list (.pair .str (.int .i64)))) (listOf (.pair .str (.list (.pair .str (.int .i64)))) (nth (Tr.val [] (Tr.lft (Tr.lft (Tr.lft (Tr.rgt (Tr.rgt σ.boxes)))))) 0)) (.own false false)]]) 6⟩)
    | false => lf p σ K
  | false => lf p σ K
theorem L139v1_0_d (k : Nat) (κ : Res → Option Res) (h : ∀ (p0 : ByteArray) (p1 : (List (ByteArray × Int))) (p2 : Int) (p3 : Int) (p4 : T5) (K : Cont), (ev Try.prog cfg k).loop 139 1 κ [true, true, false, true, false] ⟨34, Tr.of (nthD .undef [.undef, .undef, .str p0, .undef, .undef, .undef, .undef, .undef, .undef, .undef, .undef, .undef, .undef, .undef, .undef, .undef, .undef, .undef, .undef, .list (.pair .str (.int .i64)) p1 .no, .int .i64 p2, .int .i64 p3]) 6, Tr.of (nthD [] [[], [], [], [], [], [], [], [], [], [], [], [], [], [], [], [], [], [], [], [], [], [], [], [], [], [], [], [], [], [], [], [], [], [], [.list (.pair .str (.list (.pair .str (.int .i64)))) p4 (.own false false)]]) 6⟩ K = L139v1_0 k (fun x => κ ((.tup [.int .i64 x.1, .int .i64 x.2.1], [[.list (.pair .str (.list (.pair .str (.int .i64)))) x.2.2 (.own false false)]]) : Res)) p0 p1 p2 p3 p4 (fun v => K (.exit 0) ⟨34, Tr.of (nthD .undef [.undef, .undef, .str p0, .undef, .undef, .undef, .undef, .undef, .undef, .undef, .undef, .undef, .undef, .undef, .undef, .undef, .undef, .undef, .undef, .list (.pair .str (.int .i64)) p1 .no, .int .i64 p2, .int .i64 v]) 6, Tr.of (nthD [] [[], [], [], [], [], [], [], [], [], [], [], [], [], [], [], [], [], [], [], [], [], [], [], [], [], [], [], [], [], [], [], [], [], [], [.list (.pair .str (.list (.pair .str (.int .i64)))) p4 (.own false false)]]) 6⟩)) : L139v1_0_m (L139v1_0 k (fun x => κ ((.tup [.int .i64 x.1, .int .i64 x.2.1], [[.list (.pair .str (.list (.pair .str (.int .i64)))) x.2.2 (.own false false)]]) : Res))) ((ev Try.prog cfg k).loop 139 1 κ) = (ev Try.prog cfg k).loop 139 1 κ := by
  funext p σ K
  unfold L139v1_0_m
  split
  · rename_i hp
    split
    · rename_i hs
      have e : mkSt 34 L139v1_0_s L139v1_0_b σ = ⟨34, Tr.of (nthD .undef [.undef, .undef, .str (stringOf (Tr.val .undef (Tr.rgt σ.slots))), .undef, .undef, .undef, .undef, .undef, .undef, .undef, .undef, .undef, .undef, .undef, .undef, .undef, .undef, .undef, .undef, .list (.pair .str (.int .i64)) (listOf (.pair .str (.int .i64)) (Tr.val .undef (Tr.lft (Tr.rgt (Tr.lft (Tr.lft σ.slots)))))) .no, .int .i64 (intOf (Tr.val .undef (Tr.lft (Tr.rgt (Tr.lft (Tr.rgt σ.slots)))))), .int .i64 (intOf (Tr.val .undef (Tr.lft (Tr.rgt (Tr.rgt (Tr.lft σ.slots))))))]) 6, Tr.of (nthD [] [[], [], [], [], [], [], [], [], [], [], [], [], [], [], [], [], [], [], [], [], [], [], [], [], [], [], [], [], [], [], [], [], [], [], [.list (.pair .str (.list (.pair .str (.int .i64)))) (listOf (.pair .str (.list (.pair .str (.int .i64)))) (nth (Tr.val [] (Tr.lft (Tr.lft (Tr.lft (Tr.rgt (Tr.rgt σ.boxes)))))) 0)) (.own false false)]]) 6⟩ := by kernel_rfl
      rw [pathEq_eq hp]
      exact (h (stringOf (Tr.val .undef (Tr.rgt σ.slots))) (listOf (.pair .str (.int .i64)) (Tr.val .undef (Tr.lft (Tr.rgt (Tr.lft (Tr.lft σ.slots)))))) (intOf (Tr.val .undef (Tr.lft (Tr.rgt (Tr.lft (Tr.rgt σ.slots)))))) (intOf (Tr.val .undef (Tr.lft (Tr.rgt (Tr.rgt (Tr.lft σ.slots)))))) (listOf (.pair .str (.list (.pair .str (.int .i64)))) (nth (Tr.val [] (Tr.lft (Tr.lft (Tr.lft (Tr.rgt (Tr.rgt σ.boxes)))))) 0)) K).symm.trans (congrArg (fun s => (ev Try.prog cfg k).loop 139 1 κ [true, true, false, true, false] s K) (e.symm.trans (okSt_eq hs).symm))
    · rfl
  · rfl
theorem L139v1_0_k (gL139v1_0 : tL139v1_0) (cf : CallF) (lf : LoopF) (κ : Res → Option Res) (p0 : ByteArray) (p1 : (List (ByteArray × Int))) (p2 : Int) (p3 : Int) (p4 : T5) (K : Cont) : evLp Try.prog cfg cf (L139v1_0_m gL139v1_0 lf) 139 1 κ [true, true, false, true, false] ⟨34, Tr.of (nthD .undef [.undef, .undef, .str p0, .undef, .undef, .undef, .undef, .undef, .undef, .undef, .undef, .undef, .undef, .undef, .undef, .undef, .undef, .undef, .undef, .list (.pair .str (.int .i64)) p1 .no, .int .i64 p2, .int .i64 p3]) 6, Tr.of (nthD [] [[], [], [], [], [], [], [], [], [], [], [], [], [], [], [], [], [], [], [], [], [], [], [], [], [], [], [], [], [], [], [], [], [], [], [.list (.pair .str (.list (.pair .str (.int .i64)))) p4 (.own false false)]]) 6⟩ K = L139v1_0_B gL139v1_0 (fun x => κ ((.tup [.int .i64 x.1, .int .i64 x.2.1], [[.list (.pair .str (.list (.pair .str (.int .i64)))) x.2.2 (.own false false)]]) : Res)) p0 p1 p2 p3 p4 (fun v => K (.exit 0) ⟨34, Tr.of (nthD .undef [.undef, .undef, .str p0, .undef, .undef, .undef, .undef, .undef, .undef, .undef, .undef, .undef, .undef, .undef, .undef, .undef, .undef, .undef, .undef, .list (.pair .str (.int .i64)) p1 .no, .int .i64 p2, .int .i64 v]) 6, Tr.of (nthD [] [[], [], [], [], [], [], [], [], [], [], [], [], [], [], [], [], [], [], [], [], [], [], [], [], [], [], [], [], [], [], [], [], [], [], [.list (.pair .str (.list (.pair .str (.int .i64)))) p4 (.own false false)]]) 6⟩) := by
  kernel_rfl
theorem L139v1_0_ev : ∀ (k : Nat) (κ : Res → Option Res) (p0 : ByteArray) (p1 : (List (ByteArray × Int))) (p2 : Int) (p3 : Int) (p4 : T5) (K : Cont), (ev Try.prog cfg k).loop 139 1 κ [true, true, false, true, false] ⟨34, Tr.of (nthD .undef [.undef, .undef, .str p0, .undef, .undef, .undef, .undef, .undef, .undef, .undef, .undef, .undef, .undef, .undef, .undef, .undef, .undef, .undef, .undef, .list (.pair .str (.int .i64)) p1 .no, .int .i64 p2, .int .i64 p3]) 6, Tr.of (nthD [] [[], [], [], [], [], [], [], [], [], [], [], [], [], [], [], [], [], [], [], [], [], [], [], [], [], [], [], [], [], [], [], [], [], [], [.list (.pair .str (.list (.pair .str (.int .i64)))) p4 (.own false false)]]) 6⟩ K = L139v1_0 k (fun x => κ ((.tup [.int .i64 x.1, .int .i64 x.2.1], [[.list (.pair .str (.list (.pair .str (.int .i64)))) x.2.2 (.own false false)]]) : Res)) p0 p1 p2 p3 p4 (fun v => K (.exit 0) ⟨34, Tr.of (nthD .undef [.undef, .undef, .str p0, .undef, .undef, .undef, .undef, .undef, .undef, .undef, .undef, .undef, .undef, .undef, .undef, .undef, .undef, .undef, .undef, .list (.pair .str (.int .i64)) p1 .no, .int .i64 p2, .int .i64 v]) 6, Tr.of (nthD [] [[], [], [], [], [], [], [], [], [], [], [], [], [], [], [], [], [], [], [], [], [], [], [], [], [], [], [], [], [], [], [], [], [], [], [.list (.pair .str (.list (.pair .str (.int .i64)))) p4 (.own false false)]]) 6⟩) := by
  intro k κ
  induction k with
  | zero => intro p0 p1 p2 p3 p4 K; rfl
  | succ k ih =>
    intro p0 p1 p2 p3 p4 K
    rw [ev_loop, ← L139v1_0_d k κ ih]
    exact L139v1_0_k _ _ _ κ p0 p1 p2 p3 p4 K
def F139v1_B (gF93 : tF93) (gL139v1_0 : tL139v1_0) (a1 : ByteArray) (a2 : ByteArray) (b0_0 : T5) (κ : Int × Int × T5 → Option Res) : Option Res :=
  chk1 (gF93 a1 b0_0 fun x1 =>
   chk5 (gL139v1_0 a2 x1.1.2 (x1.1.2.length : Int) (0 : Int) x1.2.2 fun v2 =>
    κ ((-1 : Int), ((0 : Int), x1.2.2))))
/-- (*lamplighter/schema.Schema).Field -/
def F139v1 : Nat → ByteArray → ByteArray → T5 → (Int × Int × T5 → Option Res) → Option Res
  | 0, _, _, _, _ => none
  | k + 1, a1, a2, b0_0, κ => F139v1_B (F93 k) (L139v1_0 k κ) a1 a2 b0_0 κ
def F139v1_s : List SC := [.one (.ref 0 0), .one .str, .one .str]
def F139v1_b : List (List SC) := [[.one (.list (.pair .str (.list (.pair .str (.int .i64)))) (.own false false))]]
def F139v1_m (g : ByteArray → ByteArray → T5 → (Int × Int × T5 → Option Res) → Option Res) (cf : CallF) : CallF := fun f args lent κ => match Nat.beq f 139 with
  | true => match okC F139v1_s args && okB F139v1_b lent with
    | true => g (stringOf (nth args 1)) (stringOf (nth args 2)) (listOf (.pair .str (.list (.pair .str (.int .i64)))) (nth (nthB lent 0) 0)) (fun x => κ ((.tup [.int .i64 x.1, .int .i64 x.2.1], [[.list (.pair .str (.list (.pair .str (.int .i64)))) x.2.2 (.own false false)]]) : Res))
    | false => cf f args lent κ
  | false => cf f args lent κ
theorem F139v1_d (k : Nat) (h : ∀ (a1 : ByteArray) (a2 : ByteArray) (b0_0 : T5) (κ : Res → Option Res), (ev Try.prog cfg k).call 139 [.ref 0 0, .str a1, .str a2] [[.list (.pair .str (.list (.pair .str (.int .i64)))) b0_0 (.own false false)]] κ = F139v1 k a1 a2 b0_0 (fun x => κ ((.tup [.int .i64 x.1, .int .i64 x.2.1], [[.list (.pair .str (.list (.pair .str (.int .i64)))) x.2.2 (.own false false)]]) : Res))) : F139v1_m (F139v1 k) (ev Try.prog cfg k).call = (ev Try.prog cfg k).call := by
  funext f args lent κ
  unfold F139v1_m
  split
  · rename_i hp
    split
    · rename_i hs
      rw [Bool.and_eq_true] at hs
      have e : mkC F139v1_s 0 args = [.ref 0 0, .str (stringOf (nth args 1)), .str (stringOf (nth args 2))] := by kernel_rfl
      have e' : mkB F139v1_b 0 lent = [[.list (.pair .str (.list (.pair .str (.int .i64)))) (listOf (.pair .str (.list (.pair .str (.int .i64)))) (nth (nthB lent 0) 0)) (.own false false)]] := by kernel_rfl
      obtain rfl := Nat.eq_of_beq_eq_true hp
      exact (h (stringOf (nth args 1)) (stringOf (nth args 2)) (listOf (.pair .str (.list (.pair .str (.int .i64)))) (nth (nthB lent 0) 0)) κ).symm.trans (cong2 (fun a l => (ev Try.prog cfg k).call 139 a l κ) (e.symm.trans (okC_eq hs.1).symm) (e'.symm.trans (okB_eq hs.2).symm))
    · rfl
  · rfl
theorem F139v1_k (gF93 : tF93) (gL139v1_0 : tL139v1_0) (cf : CallF) (lf : LoopF) (a1 : ByteArray) (a2 : ByteArray) (b0_0 : T5) (κ : Res → Option Res) : evFn Try.prog cfg (F93_m gF93 cf) (L139v1_0_m gL139v1_0 lf) 139 [.ref 0 0, .str a1, .str a2] [[.list (.pair .str (.list (.pair .str (.int .i64)))) b0_0 (.own false false)]] κ = F139v1_B gF93 gL139v1_0 a1 a2 b0_0 (fun x => κ ((.tup [.int .i64 x.1, .int .i64 x.2.1], [[.list (.pair .str (.list (.pair .str (.int .i64)))) x.2.2 (.own false false)]]) : Res)) := by
  kernel_rfl
theorem F139v1_ev : ∀ (k : Nat) (a1 : ByteArray) (a2 : ByteArray) (b0_0 : T5) (κ : Res → Option Res), (ev Try.prog cfg k).call 139 [.ref 0 0, .str a1, .str a2] [[.list (.pair .str (.list (.pair .str (.int .i64)))) b0_0 (.own false false)]] κ = F139v1 k a1 a2 b0_0 (fun x => κ ((.tup [.int .i64 x.1, .int .i64 x.2.1], [[.list (.pair .str (.list (.pair .str (.int .i64)))) x.2.2 (.own false false)]]) : Res)) := by
  intro k
  induction k with
  | zero => intros; rfl
  | succ k ih =>
    intro a1 a2 b0_0 κ
    refine (ev_call' Try.prog cfg k 139 1 _ _ κ (by rfl)).trans ?_
    rw [← F93_d k (F93_ev k), ← L139v1_0_d k κ (L139v1_0_ev k κ)]
    exact F139v1_k _ _ _ _ a1 a2 b0_0 κ
def L97v1_0_B (gF139v1 : tF139v1) (gL97v1_0 : tL97v1_0) (κ : Int × Int × T5 → Option Res) (p0 : Int) (p1 : (List ByteArray)) (p2 : Int) (p3 : Int) (p4 : Int) (p5 : Int) (p6 : Int) (p7 : ByteArray) (p8 : Bool) (p9 : ByteArray) (p10 : ByteArray) (p11 : T5) (K : Int × Int × T5 → Option Res) : Option Res :=
  chk1 (if decide (p3 < p2) = true then
    (if (true && (decide ((0 : Int) ≤ p3) && decide (p3 < (p1.length : Int)))) = true then
     (chk1 (gF139v1 (p1.getD p3.toNat (⟨#[]⟩ : ByteArray)) p10 p11 fun x2 =>
      chk2 (if decide (x2.1 < (0 : Int)) = true then
        (chk1 (κ ((0 : Int), ((10 : Int), x2.2.2))))
       else
        (chk1 (if (p0 != (0 : Int)) = true then
          (chk1 (if (x2.2.1 != p0) = true then
            (κ ((0 : Int), ((10 : Int), x2.2.2)))
           else
            (chk1 (gL97v1_0 x2.2.1 p1 p2 (IntKind.wrap .i64 (p3 + (1 : Int))) p4 p5 p6 p7 p8 p9 p10 x2.2.2 K))))
         else
          (if false = true then
           (none)
          else
           (chk1 (gL97v1_0 x2.2.1 p1 p2 (IntKind.wrap .i64 (p3 + (1 : Int))) p4 p5 p6 p7 p8 p9 p10 x2.2.2 K))))))))
    else
     (none))
   else
    (K (p0, (p3, p11))))
def L97v1_0 : Nat → (Int × Int × T5 → Option Res) → Int → (List ByteArray) → Int → Int → Int → Int → Int → ByteArray → Bool → ByteArray → ByteArray → T5 → (Int × Int × T5 → Option Res) → Option Res
  | 0, _, _, _, _, _, _, _, _, _, _, _, _, _, _ => none
  | k + 1, κ, p0, p1, p2, p3, p4, p5, p6, p7, p8, p9, p10, p11, K => L97v1_0_B (F139v1 k) (fun p0 p1 p2 p3 p4 p5 p6 p7 p8 p9 p10 p11 K => L97v1_0 k κ p0 p1 p2 p3 p4 p5 p6 p7 p8 p9 p10 p11 K) κ p0 p1 p2 p3 p4 p5 p6 p7 p8 p9 p10 p11 K
def L97v1_0_s : Tr SC := Tr.of (nthD (.one .undef) [.one (.ref 53 0), .one .undef, .one .undef, .one .undef, .one .undef, .one (.ref 5 0), .one .undef, .one .undef, .one .undef, .one (.int .i64), .one .undef, .one .undef, .one .undef, .one .undef, .one .undef, .one .undef, .one .undef, .one .undef, .one .undef, .one .undef, .one .undef, .one .undef, .one .undef, .one (.list .str .no), .one (.int .i64), .one (.int .i64)]) 6
def L97v1_0_b : Tr (List SC) := Tr.of (nthD [] [[], [], [], [], [], [.one (.int .i64), .one (.int .i64), .one (.int .i64), .one .str, .one .bool, .one .str, .one .str], [], [], [], [], [], [], [], [], [], [], [], [], [], [], [], [], [], [], [], [], [], [], [], [], [], [], [], [], [], [], [], [], [], [], [], [], [], [], [], [], [], [], [], [], [], [], [], [.one (.list (.pair .str (.list (.pair .str (.int .i64)))) (.own false false))]]) 6
def L97v1_0_m (g : Int → (List ByteArray) → Int → Int → Int → Int → Int → ByteArray → Bool → ByteArray → ByteArray → T5 → (Int × Int × T5 → Option Res) → Option Res) (lf : LoopF) : LoopF := fun p σ K => match pathEq p [true, true, true, true, false, true, false] with
  | true => match okSt 53 L97v1_0_s L97v1_0_b σ with
    | true => g (intOf (Tr.val .undef (Tr.lft (Tr.rgt (Tr.lft σ.slots))))) (listOf .str (Tr.val .undef (Tr.rgt (Tr.lft (Tr.lft (Tr.lft σ.slots)))))) (intOf (Tr.val .undef (Tr.rgt (Tr.lft (Tr.lft (Tr.rgt σ.slots)))))) (intOf (Tr.val .undef (Tr.rgt (Tr.lft (Tr.rgt (Tr.lft σ.slots)))))) (intOf (nth (Tr.val [] (Tr.rgt (Tr.lft σ.boxes))) 0)) (intOf (nth (Tr.val [] (Tr.rgt (Tr.lft σ.boxes))) 1)) (intOf (nth (Tr.val [] (Tr.rgt (Tr.lft σ.boxes))) 2)) (stringOf (nth (Tr.val [] (Tr.rgt (Tr.lft σ.boxes))) 3)) (boolOf (nth (Tr.val [] (Tr.rgt (Tr.lft σ.boxes))) 4)) (stringOf (nth (Tr.val [] (Tr.rgt (Tr.lft σ.boxes))) 5)) (stringOf (nth (Tr.val [] (Tr.rgt (Tr.lft σ.boxes))) 6)) (listOf (.pair .str (.list (.pair .str (.int .i64)))) (nth (Tr.val [] (Tr.rgt (Tr.lft (Tr.rgt (Tr.rgt (Tr.lft σ.boxes)))))) 0)) (fun v => K (.exit 0) ⟨53, Tr.of (nthD .undef [.ref 53 0, .undef, .undef, .undef, .undef, .ref 5 0, .undef, .undef, .undef, .int .i64 v.1, .undef, .undef, .undef, .undef, .undef, .undef, .undef, .undef, .undef, .undef, .undef, .undef, .undef, .list .str (listOf .str (Tr.val .undef (Tr.rgt (Tr.lft (Tr.lft (Tr.lft σ.slots)))))) .no, .int .i64 (intOf (Tr.val .undef (Tr.rgt (Tr.lft (Tr.lft (Tr.rgt σ.slots)))))), .int .i64 v.2.1]) 6, Tr.of (nthD [] [[], [], [], [], [], [.int .i64 (intOf (nth (Tr.val [] (Tr.rgt (Tr.lft σ.boxes))) 0)), .int .i64 (intOf (nth (Tr.val [] (Tr.rgt (Tr.lft σ.boxes))) 1)), .int .i64 (intOf (nth (Tr.val [] (Tr.rgt (Tr.lft σ.boxes))) 2)), .str (stringOf (nth (Tr.val [] (Tr.rgt (Tr.lft σ.boxes))) 3)), .bool (boolOf (nth (Tr.val [] (Tr.rgt (Tr.lft σ.boxes))) 4)), .str (stringOf (nth (Tr.val [] (Tr.rgt (Tr.lft σ.boxes))) 5)), .str (stringOf (nth (Tr.val [] (Tr.rgt (Tr.lft σ.boxes))) 6))], [], [], [], [], [], [], [], [], [], [], [], [], [], [], [], [], [], [], [], [], [], [], [], [], [], [], [], [], [], [], [], [], [], [], [], [], [], [], [], [], [], [], [], [], [], [], [], [.list (.pair .str (.list (.pair .str (.int .i64)))) v.2.2 (.own false false)]]) 6⟩)
    | false => lf p σ K
  | false => lf p σ K
theorem L97v1_0_d (k : Nat) (κ : Res → Option Res) (h : ∀ (p0 : Int) (p1 : (List ByteArray)) (p2 : Int) (p3 : Int) (p4 : Int) (p5 : Int) (p6 : Int) (p7 : ByteArray) (p8 : Bool) (p9 : ByteArray) (p10 : ByteArray) (p11 : T5) (K : Cont), (ev Try.prog cfg k).loop 97 1 κ [true, true, true, true, false, true, false] ⟨53, Tr.of (nthD .undef [.ref 53 0, .undef, .undef, .undef, .undef, .ref 5 0, .undef, .undef, .undef, .int .i64 p0, .undef, .undef, .undef, .undef, .undef, .undef, .undef, .undef, .undef, .undef, .undef, .undef, .undef, .list .str p1 .no, .int .i64 p2, .int .i64 p3]) 6, Tr.of (nthD [] [[], [], [], [], [], [.int .i64 p4, .int .i64 p5, .int .i64 p6, .str p7, .bool p8, .str p9, .str p10], [], [], [], [], [], [], [], [], [], [], [], [], [], [], [], [], [], [], [], [], [], [], [], [], [], [], [], [], [], [], [], [], [], [], [], [], [], [], [], [], [], [], [], [], [], [], [], [.list (.pair .str (.list (.pair .str (.int .i64)))) p11 (.own false false)]]) 6⟩ K = L97v1_0 k (fun x => κ ((.tup [.int .i64 x.1, .int .i64 x.2.1], [[.list (.pair .str (.list (.pair .str (.int .i64)))) x.2.2 (.own false false)]]) : Res)) p0 p1 p2 p3 p4 p5 p6 p7 p8 p9 p10 p11 (fun v => K (.exit 0) ⟨53, Tr.of (nthD .undef [.ref 53 0, .undef, .undef, .undef, .undef, .ref 5 0, .undef, .undef, .undef, .int .i64 v.1, .undef, .undef, .undef, .undef, .undef, .undef, .undef, .undef, .undef, .undef, .undef, .undef, .undef, .list .str p1 .no, .int .i64 p2, .int .i64 v.2.1]) 6, Tr.of (nthD [] [[], [], [], [], [], [.int .i64 p4, .int .i64 p5, .int .i64 p6, .str p7, .bool p8, .str p9, .str p10], [], [], [], [], [], [], [], [], [], [], [], [], [], [], [], [], [], [], [], [], [], [], [], [], [], [], [], [], [], [], [], [], [], [], [], [], [], [], [], [], [], [], [], [], [], [], [], [.list (.pair .str (.list (.pair .str (.int .i64)))) v.2.2 (.own false false)]]) 6⟩)) : L97v1_0_m (L97v1_0 k (fun x => κ ((.tup [.int .i64 x.1, .int .i64 x.2.1], [[.list (.pair .str (.list (.pair .str (.int .i64)))) x.2.2 (.own false false)]]) : Res))) ((ev Try.prog cfg k).loop 97 1 κ) = (ev Try.prog cfg k).loop 97 1 κ := by
  funext p σ K
  unfold L97v1_0_m
  split
  · rename_i hp
    split
    · rename_i hs
      have e : mkSt 53 L97v1_0_s L97v1_0_b σ = ⟨53, Tr.of (nthD .undef [.ref 53 0, .undef, .undef, .undef, .undef, .ref 5 0, .undef, .undef, .undef, .int .i64 (intOf (Tr.val .undef (Tr.lft (Tr.rgt (Tr.lft σ.slots))))), .undef, .undef, .undef, .undef, .undef, .undef, .undef, .undef, .undef, .undef, .undef, .undef, .undef, .list .str (listOf .str (Tr.val .undef (Tr.rgt (Tr.lft (Tr.lft (Tr.lft σ.slots)))))) .no, .int .i64 (intOf (Tr.val .undef (Tr.rgt (Tr.lft (Tr.lft (Tr.rgt σ.slots)))))), .int .i64 (intOf (Tr.val .undef (Tr.rgt (Tr.lft (Tr.rgt (Tr.lft σ.slots))))))]) 6, Tr.of (nthD [] [[], [], [], [], [], [.int .i64 (intOf (nth (Tr.val [] (Tr.rgt (Tr.lft σ.boxes))) 0)), .int .i64 (intOf (nth (Tr.val [] (Tr.rgt (Tr.lft σ.boxes))) 1)), .int .i64 (intOf (nth (Tr.val [] (Tr.rgt (Tr.lft σ.boxes))) 2)), .str (stringOf (nth (Tr.val [] (Tr.rgt (Tr.lft σ.boxes))) 3)), .bool (boolOf (nth (Tr.val [] (Tr.rgt (Tr.lft σ.boxes))) 4)), .str (stringOf (nth (Tr.val [] (Tr.rgt (Tr.lft σ.boxes))) 5)), .str (stringOf (nth (Tr.val [] (Tr.rgt (Tr.lft σ.boxes))) 6))], [], [], [], [], [], [], [], [], [], [], [], [], [], [], [], [], [], [], [], [], [], [], [], [], [], [], [], [], [], [], [], [], [], [], [], [], [], [], [], [], [], [], [], [], [], [], [], [.list (.pair .str (.list (.pair .str (.int .i64)))) (listOf (.pair .str (.list (.pair .str (.int .i64)))) (nth (Tr.val [] (Tr.rgt (Tr.lft (Tr.rgt (Tr.rgt (Tr.lft σ.boxes)))))) 0)) (.own false false)]]) 6⟩ := by kernel_rfl
      rw [pathEq_eq hp]
      exact (h (intOf (Tr.val .undef (Tr.lft (Tr.rgt (Tr.lft σ.slots))))) (listOf .str (Tr.val .undef (Tr.rgt (Tr.lft (Tr.lft (Tr.lft σ.slots)))))) (intOf (Tr.val .undef (Tr.rgt (Tr.lft (Tr.lft (Tr.rgt σ.slots)))))) (intOf (Tr.val .undef (Tr.rgt (Tr.lft (Tr.rgt (Tr.lft σ.slots)))))) (intOf (nth (Tr.val [] (Tr.rgt (Tr.lft σ.boxes))) 0)) (intOf (nth (Tr.val [] (Tr.rgt (Tr.lft σ.boxes))) 1)) (intOf (nth (Tr.val [] (Tr.rgt (Tr.lft σ.boxes))) 2)) (stringOf (nth (Tr.val [] (Tr.rgt (Tr.lft σ.boxes))) 3)) (boolOf (nth (Tr.val [] (Tr.rgt (Tr.lft σ.boxes))) 4)) (stringOf (nth (Tr.val [] (Tr.rgt (Tr.lft σ.boxes))) 5)) (stringOf (nth (Tr.val [] (Tr.rgt (Tr.lft σ.boxes))) 6)) (listOf (.pair .str (.list (.pair .str (.int .i64)))) (nth (Tr.val [] (Tr.rgt (Tr.lft (Tr.rgt (Tr.rgt (Tr.lft σ.boxes)))))) 0)) K).symm.trans (congrArg (fun s => (ev Try.prog cfg k).loop 97 1 κ [true, true, true, true, false, true, false] s K) (e.symm.trans (okSt_eq hs).symm))
    · rfl
  · rfl
theorem L97v1_0_k (gF139v1 : tF139v1) (gL97v1_0 : tL97v1_0) (cf : CallF) (lf : LoopF) (κ : Res → Option Res) (p0 : Int) (p1 : (List ByteArray)) (p2 : Int) (p3 : Int) (p4 : Int) (p5 : Int) (p6 : Int) (p7 : ByteArray) (p8 : Bool) (p9 : ByteArray) (p10 : ByteArray) (p11 : T5) (K : Cont) : evLp Try.prog cfg (F139v1_m gF139v1 cf) (L97v1_0_m gL97v1_0 lf) 97 1 κ [true, true, true, true, false, true, false] ⟨53, Tr.of (nthD .undef [.ref 53 0, .undef, .undef, .undef, .undef, .ref 5 0, .undef, .undef, .undef, .int .i64 p0, .undef, .undef, .undef, .undef, .undef, .undef, .undef, .undef, .undef, .undef, .undef, .undef, .undef, .list .str p1 .no, .int .i64 p2, .int .i64 p3]) 6, Tr.of (nthD [] [[], [], [], [], [], [.int .i64 p4, .int .i64 p5, .int .i64 p6, .str p7, .bool p8, .str p9, .str p10], [], [], [], [], [], [], [], [], [], [], [], [], [], [], [], [], [], [], [], [], [], [], [], [], [], [], [], [], [], [], [], [], [], [], [], [], [], [], [], [], [], [], [], [], [], [], [], [.list (.pair .str (.list (.pair .str (.int .i64)))) p11 (.own false false)]]) 6⟩ K = L97v1_0_B gF139v1 gL97v1_0 (fun x => κ ((.tup [.int .i64 x.1, .int .i64 x.2.1], [[.list (.pair .str (.list (.pair .str (.int .i64)))) x.2.2 (.own false false)]]) : Res)) p0 p1 p2 p3 p4 p5 p6 p7 p8 p9 p10 p11 (fun v => K (.exit 0) ⟨53, Tr.of (nthD .undef [.ref 53 0, .undef, .undef, .undef, .undef, .ref 5 0, .undef, .undef, .undef, .int .i64 v.1, .undef, .undef, .undef, .undef, .undef, .undef, .undef, .undef, .undef, .undef, .undef, .undef, .undef, .list .str p1 .no, .int .i64 p2, .int .i64 v.2.1]) 6, Tr.of (nthD [] [[], [], [], [], [], [.int .i64 p4, .int .i64 p5, .int .i64 p6, .str p7, .bool p8, .str p9, .str p10], [], [], [], [], [], [], [], [], [], [], [], [], [], [], [], [], [], [], [], [], [], [], [], [], [], [], [], [], [], [], [], [], [], [], [], [], [], [], [], [], [], [], [], [], [], [], [], [.list (.pair .str (.list (.pair .str (.int .i64)))) v.2.2 (.own false false)]]) 6⟩) := by
  kernel_rfl
theorem L97v1_0_ev : ∀ (k : Nat) (κ : Res → Option Res) (p0 : Int) (p1 : (List ByteArray)) (p2 : Int) (p3 : Int) (p4 : Int) (p5 : Int) (p6 : Int) (p7 : ByteArray) (p8 : Bool) (p9 : ByteArray) (p10 : ByteArray) (p11 : T5) (K : Cont), (ev Try.prog cfg k).loop 97 1 κ [true, true, true, true, false, true, false] ⟨53, Tr.of (nthD .undef [.ref 53 0, .undef, .undef, .undef, .undef, .ref 5 0, .undef, .undef, .undef, .int .i64 p0, .undef, .undef, .undef, .undef, .undef, .undef, .undef, .undef, .undef, .undef, .undef, .undef, .undef, .list .str p1 .no, .int .i64 p2, .int .i64 p3]) 6, Tr.of (nthD [] [[], [], [], [], [], [.int .i64 p4, .int .i64 p5, .int .i64 p6, .str p7, .bool p8, .str p9, .str p10], [], [], [], [], [], [], [], [], [], [], [], [], [], [], [], [], [], [], [], [], [], [], [], [], [], [], [], [], [], [], [], [], [], [], [], [], [], [], [], [], [], [], [], [], [], [], [], [.list (.pair .str (.list (.pair .str (.int .i64)))) p11 (.own false false)]]) 6⟩ K = L97v1_0 k (fun x => κ ((.tup [.int .i64 x.1, .int .i64 x.2.1], [[.list (.pair .str (.list (.pair .str (.int .i64)))) x.2.2 (.own false false)]]) : Res)) p0 p1 p2 p3 p4 p5 p6 p7 p8 p9 p10 p11 (fun v => K (.exit 0) ⟨53, Tr.of (nthD .undef [.ref 53 0, .undef, .undef, .undef, .undef, .ref 5 0, .undef, .undef, .undef, .int .i64 v.1, .undef, .undef, .undef, .undef, .undef, .undef, .undef, .undef, .undef, .undef, .undef, .undef, .undef, .list .str p1 .no, .int .i64 p2, .int .i64 v.2.1]) 6, Tr.of (nthD [] [[], [], [], [], [], [.int .i64 p4, .int .i64 p5, .int .i64 p6, .str p7, .bool p8, .str p9, .str p10], [], [], [], [], [], [], [], [], [], [], [], [], [], [], [], [], [], [], [], [], [], [], [], [], [], [], [], [], [], [], [], [], [], [], [], [], [], [], [], [], [], [], [], [], [], [], [], [.list (.pair .str (.list (.pair .str (.int .i64)))) v.2.2 (.own false false)]]) 6⟩) := by
  intro k κ
  induction k with
  | zero => intro p0 p1 p2 p3 p4 p5 p6 p7 p8 p9 p10 p11 K; rfl
  | succ k ih =>
    intro p0 p1 p2 p3 p4 p5 p6 p7 p8 p9 p10 p11 K
    rw [ev_loop, ← F139v1_d k (F139v1_ev k), ← L97v1_0_d k κ ih]
    exact L97v1_0_k _ _ _ _ κ p0 p1 p2 p3 p4 p5 p6 p7 p8 p9 p10 p11 K
def F97v1_B (gF137 : tF137) (gF139v1 : tF139v1) (gL97v1_0 : tL97v1_0) (a1 : T3) (a2 : T7) (b0_0 : T5) (κ : Int × Int × T5 → Option Res) : Option Res :=
  chk3 (gF137 a1 a2.1 a2.2.1.1 a2.2.1.2.1 a2.2.1.2.2.1 a2.2.1.2.2.2 a2.2.2.1 a2.2.2.2 fun x1 =>
   chk2 (if decide (x1.1 < (0 : Int)) = true then
     (κ ((0 : Int), ((3 : Int), b0_0)))
    else
     (if (true && (decide ((0 : Int) ≤ x1.1) && decide (x1.1 < (a1.length : Int)))) = true then
      (chk1 (gL97v1_0 (0 : Int) ((a1.getD x1.1.toNat ((⟨#[]⟩ : ByteArray), ([] : List ByteArray))).2) (((a1.getD x1.1.toNat ((⟨#[]⟩ : ByteArray), ([] : List ByteArray))).2).length : Int) (0 : Int) x1.2.1 x1.2.2.1 x1.2.2.2.1 x1.2.2.2.2.1 x1.2.2.2.2.2.1 x1.2.2.2.2.2.2.1 x1.2.2.2.2.2.2.2 b0_0 fun v3 =>
       chk1 (if (v3.1 == (0 : Int)) = true then
         (κ ((0 : Int), ((10 : Int), v3.2.2)))
        else
         (κ (v3.1, ((0 : Int), v3.2.2))))))
     else
      (none))))
/-- lamplighter/typing.field -/
def F97v1 : Nat → T3 → T7 → T5 → (Int × Int × T5 → Option Res) → Option Res
  | 0, _, _, _, _ => none
  | k + 1, a1, a2, b0_0, κ => F97v1_B (F137 k) (F139v1 k) (L97v1_0 k κ) a1 a2 b0_0 κ
def F97v1_s : List SC := [.one (.ref 0 0), .one (.list (.pair .str (.list .str)) .no), .agg [.int .i64, .int .i64, .int .i64, .str, .bool, .str, .str]]
def F97v1_b : List (List SC) := [[.one (.list (.pair .str (.list (.pair .str (.int .i64)))) (.own false false))]]
def F97v1_m (g : T3 → T7 → T5 → (Int × Int × T5 → Option Res) → Option Res) (cf : CallF) : CallF := fun f args lent κ => match Nat.beq f 97 with
  | true => match okC F97v1_s args && okB F97v1_b lent with
    | true => g (listOf (.pair .str (.list .str)) (nth args 1)) ((intOf (nth (aggOf (nth args 2)) 0)), (((intOf (nth (aggOf (nth args 2)) 1)), ((intOf (nth (aggOf (nth args 2)) 2)), ((stringOf (nth (aggOf (nth args 2)) 3)), (boolOf (nth (aggOf (nth args 2)) 4))))), ((stringOf (nth (aggOf (nth args 2)) 5)), (stringOf (nth (aggOf (nth args 2)) 6))))) (listOf (.pair .str (.list (.pair .str (.int .i64)))) (nth (nthB lent 0) 0)) (fun x => κ ((.tup [.int .i64 x.1, .int .i64 x.2.1], [[.list (.pair .str (.list (.pair .str (.int .i64)))) x.2.2 (.own false false)]]) : Res))
    | false => cf f args lent κ
  | false => cf f args lent κ
theorem F97v1_d (k : Nat) (h : ∀ (a1 : T3) (a2 : T7) (b0_0 : T5) (κ : Res → Option Res), (ev Try.prog cfg k).call 97 [.ref 0 0, .list (.pair .str (.list .str)) a1 .no, .agg [.int .i64 a2.1, .int .i64 a2.2.1.1, .int .i64 a2.2.1.2.1, .str a2.2.1.2.2.1, .bool a2.2.1.2.2.2, .str a2.2.2.1, .str a2.2.2.2]] [[.list (.pair .str (.list (.pair .str (.int .i64)))) b0_0 (.own false false)]] κ = F97v1 k a1 a2 b0_0 (fun x => κ ((.tup [.int .i64 x.1, .int .i64 x.2.1], [[.list (.pair .str (.list (.pair .str (.int .i64)))) x.2.2 (.own false false)]]) : Res))) : F97v1_m (F97v1 k) (ev Try.prog cfg k).call = (ev Try.prog cfg k).call := by
  funext f args lent κ
  unfold F97v1_m
  split
  · rename_i hp
    split
    · rename_i hs
      rw [Bool.and_eq_true] at hs
      have e : mkC F97v1_s 0 args = [.ref 0 0, .list (.pair .str (.list .str)) (listOf (.pair .str (.list .str)) (nth args 1)) .no, .agg [.int .i64 (intOf (nth (aggOf (nth args 2)) 0)), .int .i64 (intOf (nth (aggOf (nth args 2)) 1)), .int .i64 (intOf (nth (aggOf (nth args 2)) 2)), .str (stringOf (nth (aggOf (nth args 2)) 3)), .bool (boolOf (nth (aggOf (nth args 2)) 4)), .str (stringOf (nth (aggOf (nth args 2)) 5)), .str (stringOf (nth (aggOf (nth args 2)) 6))]] := by kernel_rfl
      have e' : mkB F97v1_b 0 lent = [[.list (.pair .str (.list (.pair .str (.int .i64)))) (listOf (.pair .str (.list (.pair .str (.int .i64)))) (nth (nthB lent 0) 0)) (.own false false)]] := by kernel_rfl
      obtain rfl := Nat.eq_of_beq_eq_true hp
      exact (h (listOf (.pair .str (.list .str)) (nth args 1)) ((intOf (nth (aggOf (nth args 2)) 0)), (((intOf (nth (aggOf (nth args 2)) 1)), ((intOf (nth (aggOf (nth args 2)) 2)), ((stringOf (nth (aggOf (nth args 2)) 3)), (boolOf (nth (aggOf (nth args 2)) 4))))), ((stringOf (nth (aggOf (nth args 2)) 5)), (stringOf (nth (aggOf (nth args 2)) 6))))) (listOf (.pair .str (.list (.pair .str (.int .i64)))) (nth (nthB lent 0) 0)) κ).symm.trans (cong2 (fun a l => (ev Try.prog cfg k).call 97 a l κ) (e.symm.trans (okC_eq hs.1).symm) (e'.symm.trans (okB_eq hs.2).symm))
    · rfl
  · rfl
theorem F97v1_k (gF137 : tF137) (gF139v1 : tF139v1) (gL97v1_0 : tL97v1_0) (cf : CallF) (lf : LoopF) (a1 : T3) (a2 : T7) (b0_0 : T5) (κ : Res → Option Res) : evFn Try.prog cfg (F137_m gF137 (F139v1_m gF139v1 cf)) (L97v1_0_m gL97v1_0 lf) 97 [.ref 0 0, .list (.pair .str (.list .str)) a1 .no, .agg [.int .i64 a2.1, .int .i64 a2.2.1.1, .int .i64 a2.2.1.2.1, .str a2.2.1.2.2.1, .bool a2.2.1.2.2.2, .str a2.2.2.1, .str a2.2.2.2]] [[.list (.pair .str (.list (.pair .str (.int .i64)))) b0_0 (.own false false)]] κ = F97v1_B gF137 gF139v1 gL97v1_0 a1 a2 b0_0 (fun x => κ ((.tup [.int .i64 x.1, .int .i64 x.2.1], [[.list (.pair .str (.list (.pair .str (.int .i64)))) x.2.2 (.own false false)]]) : Res)) := by
  kernel_rfl
theorem F97v1_ev : ∀ (k : Nat) (a1 : T3) (a2 : T7) (b0_0 : T5) (κ : Res → Option Res), (ev Try.prog cfg k).call 97 [.ref 0 0, .list (.pair .str (.list .str)) a1 .no, .agg [.int .i64 a2.1, .int .i64 a2.2.1.1, .int .i64 a2.2.1.2.1, .str a2.2.1.2.2.1, .bool a2.2.1.2.2.2, .str a2.2.2.1, .str a2.2.2.2]] [[.list (.pair .str (.list (.pair .str (.int .i64)))) b0_0 (.own false false)]] κ = F97v1 k a1 a2 b0_0 (fun x => κ ((.tup [.int .i64 x.1, .int .i64 x.2.1], [[.list (.pair .str (.list (.pair .str (.int .i64)))) x.2.2 (.own false false)]]) : Res)) := by
  intro k
  induction k with
  | zero => intros; rfl
  | succ k ih =>
    intro a1 a2 b0_0 κ
    refine (ev_call' Try.prog cfg k 97 1 _ _ κ (by rfl)).trans ?_
    rw [← F137_d k (F137_ev k), ← F139v1_d k (F139v1_ev k), ← L97v1_0_d k κ (L97v1_0_ev k κ)]
    exact F97v1_k _ _ _ _ _ a1 a2 b0_0 κ
def L43v1_0_B (gF96 : tF96) (gF97v1 : tF97v1) (gF98 : tF98) (gL43v1_0 : tL43v1_0) (κ : Int × Int × T5 → Option Res) (p0 : T3) (p1 : (List Int)) (p2 : T8) (p3 : Int) (p4 : Int) (p5 : T5) (K : (List Int) × Int × T5 → Option Res) : Option Res :=
  chk1 (if decide (p4 < p3) = true then
    (if (true && (decide ((0 : Int) ≤ p4) && decide (p4 < (p2.length : Int)))) = true then
     (chk5 (gF96 ((p2.getD p4.toNat ((0 : Int), (((0 : Int), ((0 : Int), ((⟨#[]⟩ : ByteArray), false))), ((⟨#[]⟩ : ByteArray), (⟨#[]⟩ : ByteArray))))).1) fun x2 =>
      chk3 (if (((p2.getD p4.toNat ((0 : Int), (((0 : Int), ((0 : Int), ((⟨#[]⟩ : ByteArray), false))), ((⟨#[]⟩ : ByteArray), (⟨#[]⟩ : ByteArray))))).1) == (1 : Int)) = true then
        (chk1 (if (((((p2.getD p4.toNat ((0 : Int), (((0 : Int), ((0 : Int), ((⟨#[]⟩ : ByteArray), false))), ((⟨#[]⟩ : ByteArray), (⟨#[]⟩ : ByteArray))))).2).1).1) == (0 : Int)) = true then
          (κ ((0 : Int), ((10 : Int), p5)))
         else
          (if (true && (decide ((0 : Int) ≤ (IntKind.wrap .i64 ((p1.length : Int) - x2))) && (decide ((IntKind.wrap .i64 ((p1.length : Int) - x2)) ≤ (p1.length : Int)) && decide ((IntKind.wrap .i64 ((p1.length : Int) - x2)) = (IntKind.wrap .i64 ((p1.length : Int) - x2)))))) = true then chk3 (if decide ((((p1.take (IntKind.wrap .i64 ((p1.length : Int) - x2)).toNat).drop (0 : Int).toNat).length + ([(((p2.getD p4.toNat ((0 : Int), (((0 : Int), ((0 : Int), ((⟨#[]⟩ : ByteArray), false))), ((⟨#[]⟩ : ByteArray), (⟨#[]⟩ : ByteArray))))).2).1).1] : List Int).length) * 8 ≤ 140737488355328) = true then chk1 (gL43v1_0 p0 (((p1.take (IntKind.wrap .i64 ((p1.length : Int) - x2)).toNat).drop (0 : Int).toNat) ++ ([(((p2.getD p4.toNat ((0 : Int), (((0 : Int), ((0 : Int), ((⟨#[]⟩ : ByteArray), false))), ((⟨#[]⟩ : ByteArray), (⟨#[]⟩ : ByteArray))))).2).1).1] : List Int)) p2 p3 (IntKind.wrap .i64 (p4 + (1 : Int))) p5 K) else none) else none)))
       else
        (chk1 (if (((p2.getD p4.toNat ((0 : Int), (((0 : Int), ((0 : Int), ((⟨#[]⟩ : ByteArray), false))), ((⟨#[]⟩ : ByteArray), (⟨#[]⟩ : ByteArray))))).1) == (2 : Int)) = true then
          (chk1 (gF97v1 p0 ((p2.getD p4.toNat ((0 : Int), (((0 : Int), ((0 : Int), ((⟨#[]⟩ : ByteArray), false))), ((⟨#[]⟩ : ByteArray), (⟨#[]⟩ : ByteArray))))).1, (((((p2.getD p4.toNat ((0 : Int), (((0 : Int), ((0 : Int), ((⟨#[]⟩ : ByteArray), false))), ((⟨#[]⟩ : ByteArray), (⟨#[]⟩ : ByteArray))))).2).1).1, (((((p2.getD p4.toNat ((0 : Int), (((0 : Int), ((0 : Int), ((⟨#[]⟩ : ByteArray), false))), ((⟨#[]⟩ : ByteArray), (⟨#[]⟩ : ByteArray))))).2).1).2).1, (((((p2.getD p4.toNat ((0 : Int), (((0 : Int), ((0 : Int), ((⟨#[]⟩ : ByteArray), false))), ((⟨#[]⟩ : ByteArray), (⟨#[]⟩ : ByteArray))))).2).1).2).2))), (((p2.getD p4.toNat ((0 : Int), (((0 : Int), ((0 : Int), ((⟨#[]⟩ : ByteArray), false))), ((⟨#[]⟩ : ByteArray), (⟨#[]⟩ : ByteArray))))).2).2))) p5 fun x3 =>
           chk2 (if (x3.2.1 != (0 : Int)) = true then
             (κ ((0 : Int), (x3.2.1, x3.2.2)))
            else
             (chk1 (if (x3.1 == (0 : Int)) = true then
               (κ ((0 : Int), ((10 : Int), x3.2.2)))
              else
               (if (true && (decide ((0 : Int) ≤ (IntKind.wrap .i64 ((p1.length : Int) - x2))) && (decide ((IntKind.wrap .i64 ((p1.length : Int) - x2)) ≤ (p1.length : Int)) && decide ((IntKind.wrap .i64 ((p1.length : Int) - x2)) = (IntKind.wrap .i64 ((p1.length : Int) - x2)))))) = true then chk3 (if decide ((((p1.take (IntKind.wrap .i64 ((p1.length : Int) - x2)).toNat).drop (0 : Int).toNat).length + ([x3.1] : List Int).length) * 8 ≤ 140737488355328) = true then chk1 (gL43v1_0 p0 (((p1.take (IntKind.wrap .i64 ((p1.length : Int) - x2)).toNat).drop (0 : Int).toNat) ++ ([x3.1] : List Int)) p2 p3 (IntKind.wrap .i64 (p4 + (1 : Int))) x3.2.2 K) else none) else none))))))
         else
          (if ((true && decide ((0 : Int) ≤ (IntKind.wrap .i64 ((p1.length : Int) - x2)))) && (decide ((IntKind.wrap .i64 ((p1.length : Int) - x2)) ≤ (p1.length : Int)) && decide ((p1.length : Int) ≤ (p1.length : Int)))) = true then
           (chk1 (gF98 ((p2.getD p4.toNat ((0 : Int), (((0 : Int), ((0 : Int), ((⟨#[]⟩ : ByteArray), false))), ((⟨#[]⟩ : ByteArray), (⟨#[]⟩ : ByteArray))))).1) ((p1.take (p1.length : Int).toNat).drop (IntKind.wrap .i64 ((p1.length : Int) - x2)).toNat) fun x4 =>
            chk2 (if (x4 == (0 : Int)) = true then
              (κ ((0 : Int), ((10 : Int), p5)))
             else
              (if (true && (decide ((0 : Int) ≤ (IntKind.wrap .i64 ((p1.length : Int) - x2))) && (decide ((IntKind.wrap .i64 ((p1.length : Int) - x2)) ≤ (p1.length : Int)) && decide ((IntKind.wrap .i64 ((p1.length : Int) - x2)) = (IntKind.wrap .i64 ((p1.length : Int) - x2)))))) = true then chk3 (if decide ((((p1.take (IntKind.wrap .i64 ((p1.length : Int) - x2)).toNat).drop (0 : Int).toNat).length + ([x4] : List Int).length) * 8 ≤ 140737488355328) = true then chk1 (gL43v1_0 p0 (((p1.take (IntKind.wrap .i64 ((p1.length : Int) - x2)).toNat).drop (0 : Int).toNat) ++ ([x4] : List Int)) p2 p3 (IntKind.wrap .i64 (p4 + (1 : Int))) p5 K) else none) else none))))
          else
           (none)))))))
    else
     (none))
   else
    (K (p1, (p4, p5))))
def L43v1_0 : Nat → (Int × Int × T5 → Option Res) → T3 → (List Int) → T8 → Int → Int → T5 → ((List Int) × Int × T5 → Option Res) → Option Res
  | 0, _, _, _, _, _, _, _, _ => none
  | k + 1, κ, p0, p1, p2, p3, p4, p5, K => L43v1_0_B (F96 k) (F97v1 k) (F98 k) (fun p0 p1 p2 p3 p4 p5 K => L43v1_0 k κ p0 p1 p2 p3 p4 p5 K) κ p0 p1 p2 p3 p4 p5 K
def L43v1_0_s : Tr SC := Tr.of (nthD (.one .undef) [.one (.ref 67 0), .one (.list (.pair .str (.list .str)) .no), .one .undef, .one .undef, .one .undef, .one .undef, .one .undef, .one .undef, .one (.list (.int .i64) (.own true false)), .one .undef, .one .undef, .one .undef, .one .undef, .one .undef, .one .undef, .one .undef, .one .undef, .one (.list (.pair (.int .i64) (.pair (.pair (.int .i64) (.pair (.int .i64) (.pair .str .bool))) (.pair .str .str))) .no), .one (.int .i64), .one (.int .i64)]) 7
def L43v1_0_b : Tr (List SC) := Tr.of (nthD [] [[], [], [], [], [], [], [], [], [], [], [], [], [], [], [], [], [], [], [], [], [], [], [], [], [], [], [], [], [], [], [], [], [], [], [], [], [], [], [], [], [], [], [], [], [], [], [], [], [], [], [], [], [], [], [], [], [], [], [], [], [], [], [], [], [], [], [], [.one (.list (.pair .str (.list (.pair .str (.int .i64)))) (.own false false))]]) 7
def L43v1_0_m (g : T3 → (List Int) → T8 → Int → Int → T5 → ((List Int) × Int × T5 → Option Res) → Option Res) (lf : LoopF) : LoopF := fun p σ K => match pathEq p [true, true, true, false, true, false] with
  | true => match okSt 67 L43v1_0_s L43v1_0_b σ with
    | true => g (listOf (.pair .str (.list .str)) (Tr.val .undef (Tr.lft σ.slots))) (listOf (.int .i64) (Tr.val .undef (Tr.lft (Tr.lft (Tr.rgt σ.slots))))) (listOf (.pair (.int .i64) (.pair (.pair (.int .i64) (.pair (.int .i64) (.pair .str .bool))) (.pair .str .str))) (Tr.val .undef (Tr.lft (Tr.lft (Tr.rgt (Tr.lft σ.slots)))))) (intOf (Tr.val .undef (Tr.lft (Tr.lft (Tr.rgt (Tr.rgt σ.slots)))))) (intOf (Tr.val .undef (Tr.lft (Tr.rgt (Tr.lft (Tr.lft σ.slots)))))) (listOf (.pair .str (.list (.pair .str (.int .i64)))) (nth (Tr.val [] (Tr.lft (Tr.lft (Tr.lft (Tr.rgt (Tr.lft (Tr.lft σ.boxes))))))) 0)) (fun v => K (.exit 0) ⟨67, Tr.of (nthD .undef [.ref 67 0, .list (.pair .str (.list .str)) (listOf (.pair .str (.list .str)) (Tr.val .undef (Tr.lft σ.slots))) .no, .undef, .undef, .undef, .undef, .undef, .undef, .list (.int .i64) v.1 (.own true false), .undef, .undef, .undef, .undef, .undef, .undef, .undef, .undef, .list (.pair (.int .i64) (.pair (.pair (.int .i64) (.pair (.int .i64) (.pair .str .bool))) (.pair .str .str))) (listOf (.pair (.int .i64) (.pair (.pair (.int .i64) (.pair (.int .i64) (.pair .str .bool))) (.pair .str .str))) (Tr.val .undef (Tr.lft (Tr.lft (Tr.rgt (Tr.lft σ.slots)))))) .no, .int .i64 (intOf (Tr.val .undef (Tr.lft (Tr.lft (Tr.rgt (Tr.rgt σ.slots)))))), .int .i64 v.2.1]) 7, Tr.of (nthD [] [[], [], [], [], [], [], [], [], [], [], [], [], [], [], [], [], [], [], [], [], [], [], [], [], [], [], [], [], [], [], [], [], [], [], [], [], [], [], [], [], [], [], [], [], [], [], [], [], [], [], [], [], [], [], [], [], [], [], [], [], [], [], [], [], [], [], [], [.list (.pair .str (.list (.pair .str (.int .i64)))) v.2.2 (.own false false)]]) 7⟩)
    | false => lf p σ K
  | false => lf p σ K
theorem L43v1_0_d (k : Nat) (κ : Res → Option Res) (h : ∀ (p0 : T3) (p1 : (List Int)) (p2 : T8) (p3 : Int) (p4 : Int) (p5 : T5) (K : Cont), (ev Try.prog cfg k).loop 43 1 κ [true, true, true, false, true, false] ⟨67, Tr.of (nthD .undef [.ref 67 0, .list (.pair .str (.list .str)) p0 .no, .undef, .undef, .undef, .undef, .undef, .undef, .list (.int .i64) p1 (.own true false), .undef, .undef, .undef, .undef, .undef, .undef, .undef, .undef, .list (.pair (.int .i64) (.pair (.pair (.int .i64) (.pair (.int .i64) (.pair .str .bool))) (.pair .str .str))) p2 .no, .int .i64 p3, .int .i64 p4]) 7, Tr.of (nthD [] [[], [], [], [], [], [], [], [], [], [], [], [], [], [], [], [], [], [], [], [], [], [], [], [], [], [], [], [], [], [], [], [], [], [], [], [], [], [], [], [], [], [], [], [], [], [], [], [], [], [], [], [], [], [], [], [], [], [], [], [], [], [], [], [], [], [], [], [.list (.pair .str (.list (.pair .str (.int .i64)))) p5 (.own false false)]]) 7⟩ K = L43v1_0 k (fun x => κ ((.tup [.int .i64 x.1, .int .i64 x.2.1], [[.list (.pair .str (.list (.pair .str (.int .i64)))) x.2.2 (.own false false)]]) : Res)) p0 p1 p2 p3 p4 p5 (fun v => K (.exit 0) ⟨67, Tr.of (nthD .undef [.ref 67 0, .list (.pair .str (.list .str)) p0 .no, .undef, .undef, .undef, .undef, .undef, .undef, .list (.int .i64) v.1 (.own true false), .undef, .undef, .undef, .undef, .undef, .undef, .undef, .undef, .list (.pair (.int .i64) (.pair (.pair (.int .i64) (.pair (.int .i64) (.pair .str .bool))) (.pair .str .str))) p2 .no, .int .i64 p3, .int .i64 v.2.1]) 7, Tr.of (nthD [] [[], [], [], [], [], [], [], [], [], [], [], [], [], [], [], [], [], [], [], [], [], [], [], [], [], [], [], [], [], [], [], [], [], [], [], [], [], [], [], [], [], [], [], [], [], [], [], [], [], [], [], [], [], [], [], [], [], [], [], [], [], [], [], [], [], [], [], [.list (.pair .str (.list (.pair .str (.int .i64)))) v.2.2 (.own false false)]]) 7⟩)) : L43v1_0_m (L43v1_0 k (fun x => κ ((.tup [.int .i64 x.1, .int .i64 x.2.1], [[.list (.pair .str (.list (.pair .str (.int .i64)))) x.2.2 (.own false false)]]) : Res))) ((ev Try.prog cfg k).loop 43 1 κ) = (ev Try.prog cfg k).loop 43 1 κ := by
  funext p σ K
  unfold L43v1_0_m
  split
  · rename_i hp
    split
    · rename_i hs
      have e : mkSt 67 L43v1_0_s L43v1_0_b σ = ⟨67, Tr.of (nthD .undef [.ref 67 0, .list (.pair .str (.list .str)) (listOf (.pair .str (.list .str)) (Tr.val .undef (Tr.lft σ.slots))) .no, .undef, .undef, .undef, .undef, .undef, .undef, .list (.int .i64) (listOf (.int .i64) (Tr.val .undef (Tr.lft (Tr.lft (Tr.rgt σ.slots))))) (.own true false), .undef, .undef, .undef, .undef, .undef, .undef, .undef, .undef, .list (.pair (.int .i64) (.pair (.pair (.int .i64) (.pair (.int .i64) (.pair .str .bool))) (.pair .str .str))) (listOf (.pair (.int .i64) (.pair (.pair (.int .i64) (.pair (.int .i64) (.pair .str .bool))) (.pair .str .str))) (Tr.val .undef (Tr.lft (Tr.lft (Tr.rgt (Tr.lft σ.slots)))))) .no, .int .i64 (intOf (Tr.val .undef (Tr.lft (Tr.lft (Tr.rgt (Tr.rgt σ.slots)))))), .int .i64 (intOf (Tr.val .undef (Tr.lft (Tr.rgt (Tr.lft (Tr.lft σ.slots))))))]) 7, Tr.of (nthD [] [[], [], [], [], [], [], [], [], [], [], [], [], [], [], [], [], [], [], [], [], [], [], [], [], [], [], [], [], [], [], [], [], [], [], [], [], [], [], [], [], [], [], [], [], [], [], [], [], [], [], [], [], [], [], [], [], [], [], [], [], [], [], [], [], [], [], [], [.list (.pair .str (.list (.pair .str (.int .i64)))) (listOf (.pair .str (.list (.pair .str (.int .i64)))) (nth (Tr.val [] (Tr.lft (Tr.lft (Tr.lft (Tr.rgt (Tr.lft (Tr.lft σ.boxes))))))) 0)) (.own false false)]]) 7⟩ := by kernel_rfl
      rw [pathEq_eq hp]
      exact (h (listOf (.pair .str (.list .str)) (Tr.val .undef (Tr.lft σ.slots))) (listOf (.int .i64) (Tr.val .undef (Tr.lft (Tr.lft (Tr.rgt σ.slots))))) (listOf (.pair (.int .i64) (.pair (.pair (.int .i64) (.pair (.int .i64) (.pair .str .bool))) (.pair .str .str))) (Tr.val .undef (Tr.lft (Tr.lft (Tr.rgt (Tr.lft σ.slots)))))) (intOf (Tr.val .undef (Tr.lft (Tr.lft (Tr.rgt (Tr.rgt σ.slots)))))) (intOf (Tr.val .undef (Tr.lft (Tr.rgt (Tr.lft (Tr.lft σ.slots)))))) (listOf (.pair .str (.list (.pair .str (.int .i64)))) (nth (Tr.val [] (Tr.lft (Tr.lft (Tr.lft (Tr.rgt (Tr.lft (Tr.lft σ.boxes))))))) 0)) K).symm.trans (congrArg (fun s => (ev Try.prog cfg k).loop 43 1 κ [true, true, true, false, true, false] s K) (e.symm.trans (okSt_eq hs).symm))
    · rfl
  · rfl
theorem L43v1_0_k (gF96 : tF96) (gF97v1 : tF97v1) (gF98 : tF98) (gL43v1_0 : tL43v1_0) (cf : CallF) (lf : LoopF) (κ : Res → Option Res) (p0 : T3) (p1 : (List Int)) (p2 : T8) (p3 : Int) (p4 : Int) (p5 : T5) (K : Cont) : evLp Try.prog cfg (F96_m gF96 (F97v1_m gF97v1 (F98_m gF98 cf))) (L43v1_0_m gL43v1_0 lf) 43 1 κ [true, true, true, false, true, false] ⟨67, Tr.of (nthD .undef [.ref 67 0, .list (.pair .str (.list .str)) p0 .no, .undef, .undef, .undef, .undef, .undef, .undef, .list (.int .i64) p1 (.own true false), .undef, .undef, .undef, .undef, .undef, .undef, .undef, .undef, .list (.pair (.int .i64) (.pair (.pair (.int .i64) (.pair (.int .i64) (.pair .str .bool))) (.pair .str .str))) p2 .no, .int .i64 p3, .int .i64 p4]) 7, Tr.of (nthD [] [[], [], [], [], [], [], [], [], [], [], [], [], [], [], [], [], [], [], [], [], [], [], [], [], [], [], [], [], [], [], [], [], [], [], [], [], [], [], [], [], [], [], [], [], [], [], [], [], [], [], [], [], [], [], [], [], [], [], [], [], [], [], [], [], [], [], [], [.list (.pair .str (.list (.pair .str (.int .i64)))) p5 (.own false false)]]) 7⟩ K = L43v1_0_B gF96 gF97v1 gF98 gL43v1_0 (fun x => κ ((.tup [.int .i64 x.1, .int .i64 x.2.1], [[.list (.pair .str (.list (.pair .str (.int .i64)))) x.2.2 (.own false false)]]) : Res)) p0 p1 p2 p3 p4 p5 (fun v => K (.exit 0) ⟨67, Tr.of (nthD .undef [.ref 67 0, .list (.pair .str (.list .str)) p0 .no, .undef, .undef, .undef, .undef, .undef, .undef, .list (.int .i64) v.1 (.own true false), .undef, .undef, .undef, .undef, .undef, .undef, .undef, .undef, .list (.pair (.int .i64) (.pair (.pair (.int .i64) (.pair (.int .i64) (.pair .str .bool))) (.pair .str .str))) p2 .no, .int .i64 p3, .int .i64 v.2.1]) 7, Tr.of (nthD [] [[], [], [], [], [], [], [], [], [], [], [], [], [], [], [], [], [], [], [], [], [], [], [], [], [], [], [], [], [], [], [], [], [], [], [], [], [], [], [], [], [], [], [], [], [], [], [], [], [], [], [], [], [], [], [], [], [], [], [], [], [], [], [], [], [], [], [], [.list (.pair .str (.list (.pair .str (.int .i64)))) v.2.2 (.own false false)]]) 7⟩) := by
  kernel_rfl
theorem L43v1_0_ev : ∀ (k : Nat) (κ : Res → Option Res) (p0 : T3) (p1 : (List Int)) (p2 : T8) (p3 : Int) (p4 : Int) (p5 : T5) (K : Cont), (ev Try.prog cfg k).loop 43 1 κ [true, true, true, false, true, false] ⟨67, Tr.of (nthD .undef [.ref 67 0, .list (.pair .str (.list .str)) p0 .no, .undef, .undef, .undef, .undef, .undef, .undef, .list (.int .i64) p1 (.own true false), .undef, .undef, .undef, .undef, .undef, .undef, .undef, .undef, .list (.pair (.int .i64) (.pair (.pair (.int .i64) (.pair (.int .i64) (.pair .str .bool))) (.pair .str .str))) p2 .no, .int .i64 p3, .int .i64 p4]) 7, Tr.of (nthD [] [[], [], [], [], [], [], [], [], [], [], [], [], [], [], [], [], [], [], [], [], [], [], [], [], [], [], [], [], [], [], [], [], [], [], [], [], [], [], [], [], [], [], [], [], [], [], [], [], [], [], [], [], [], [], [], [], [], [], [], [], [], [], [], [], [], [], [], [.list (.pair .str (.list (.pair .str (.int .i64)))) p5 (.own false false)]]) 7⟩ K = L43v1_0 k (fun x => κ ((.tup [.int .i64 x.1, .int .i64 x.2.1], [[.list (.pair .str (.list (.pair .str (.int .i64)))) x.2.2 (.own false false)]]) : Res)) p0 p1 p2 p3 p4 p5 (fun v => K (.exit 0) ⟨67, Tr.of (nthD .undef [.ref 67 0, .list (.pair .str (.list .str)) p0 .no, .undef, .undef, .undef, .undef, .undef, .undef, .list (.int .i64) v.1 (.own true false), .undef, .undef, .undef, .undef, .undef, .undef, .undef, .undef, .list (.pair (.int .i64) (.pair (.pair (.int .i64) (.pair (.int .i64) (.pair .str .bool))) (.pair .str .str))) p2 .no, .int .i64 p3, .int .i64 v.2.1]) 7, Tr.of (nthD [] [[], [], [], [], [], [], [], [], [], [], [], [], [], [], [], [], [], [], [], [], [], [], [], [], [], [], [], [], [], [], [], [], [], [], [], [], [], [], [], [], [], [], [], [], [], [], [], [], [], [], [], [], [], [], [], [], [], [], [], [], [], [], [], [], [], [], [], [.list (.pair .str (.list (.pair .str (.int .i64)))) v.2.2 (.own false false)]]) 7⟩) := by
  intro k κ
  induction k with
  | zero => intro p0 p1 p2 p3 p4 p5 K; rfl
  | succ k ih =>
    intro p0 p1 p2 p3 p4 p5 K
    rw [ev_loop, ← F96_d k (F96_ev k), ← F97v1_d k (F97v1_ev k), ← F98_d k (F98_ev k), ← L43v1_0_d k κ ih]
    exact L43v1_0_k _ _ _ _ _ _ κ p0 p1 p2 p3 p4 p5 K
def F43v1_B (gF95 : tF95) (gF96 : tF96) (gF97v1 : tF97v1) (gF98 : tF98) (gL43v1_0 : tL43v1_0) (a1 : T3) (a2 : T8) (b0_0 : T5) (κ : Int × Int × T5 → Option Res) : Option Res :=
  chk1 (gF95 a2 fun x1 =>
   chk1 (if (!x1) = true then
     (κ ((0 : Int), ((1 : Int), b0_0)))
    else
     (chk1 (gL43v1_0 a1 ([] : List Int) a2 (a2.length : Int) (0 : Int) b0_0 fun v5 =>
      if (true && (true && decide ((0 : Int) < (v5.1.length : Int)))) = true then κ ((v5.1.getD (0 : Int).toNat (0 : Int)), ((0 : Int), v5.2.2)) else none))))
/-- lamplighter/typing.Kind -/
def F43v1 : Nat → T3 → T8 → T5 → (Int × Int × T5 → Option Res) → Option Res
  | 0, _, _, _, _ => none
  | k + 1, a1, a2, b0_0, κ => F43v1_B (F95 k) (F96 k) (F97v1 k) (F98 k) (L43v1_0 k κ) a1 a2 b0_0 κ
def F43v1_s : List SC := [.one (.ref 0 0), .one (.list (.pair .str (.list .str)) .no), .one (.list (.pair (.int .i64) (.pair (.pair (.int .i64) (.pair (.int .i64) (.pair .str .bool))) (.pair .str .str))) .no)]
def F43v1_b : List (List SC) := [[.one (.list (.pair .str (.list (.pair .str (.int .i64)))) (.own false false))]]
def F43v1_m (g : T3 → T8 → T5 → (Int × Int × T5 → Option Res) → Option Res) (cf : CallF) : CallF := fun f args lent κ => match Nat.beq f 43 with
  | true => match okC F43v1_s args && okB F43v1_b lent with
    | true => g (listOf (.pair .str (.list .str)) (nth args 1)) (listOf (.pair (.int .i64) (.pair (.pair (.int .i64) (.pair (.int .i64) (.pair .str .bool))) (.pair .str .str))) (nth args 2)) (listOf (.pair .str (.list (.pair .str (.int .i64)))) (nth (nthB lent 0) 0)) (fun x => κ ((.tup [.int .i64 x.1, .int .i64 x.2.1], [[.list (.pair .str (.list (.pair .str (.int .i64)))) x.2.2 (.own false false)]]) : Res))
    | false => cf f args lent κ
  | false => cf f args lent κ
theorem F43v1_d (k : Nat) (h : ∀ (a1 : T3) (a2 : T8) (b0_0 : T5) (κ : Res → Option Res), (ev Try.prog cfg k).call 43 [.ref 0 0, .list (.pair .str (.list .str)) a1 .no, .list (.pair (.int .i64) (.pair (.pair (.int .i64) (.pair (.int .i64) (.pair .str .bool))) (.pair .str .str))) a2 .no] [[.list (.pair .str (.list (.pair .str (.int .i64)))) b0_0 (.own false false)]] κ = F43v1 k a1 a2 b0_0 (fun x => κ ((.tup [.int .i64 x.1, .int .i64 x.2.1], [[.list (.pair .str (.list (.pair .str (.int .i64)))) x.2.2 (.own false false)]]) : Res))) : F43v1_m (F43v1 k) (ev Try.prog cfg k).call = (ev Try.prog cfg k).call := by
  funext f args lent κ
  unfold F43v1_m
  split
  · rename_i hp
    split
    · rename_i hs
      rw [Bool.and_eq_true] at hs
      have e : mkC F43v1_s 0 args = [.ref 0 0, .list (.pair .str (.list .str)) (listOf (.pair .str (.list .str)) (nth args 1)) .no, .list (.pair (.int .i64) (.pair (.pair (.int .i64) (.pair (.int .i64) (.pair .str .bool))) (.pair .str .str))) (listOf (.pair (.int .i64) (.pair (.pair (.int .i64) (.pair (.int .i64) (.pair .str .bool))) (.pair .str .str))) (nth args 2)) .no] := by kernel_rfl
      have e' : mkB F43v1_b 0 lent = [[.list (.pair .str (.list (.pair .str (.int .i64)))) (listOf (.pair .str (.list (.pair .str (.int .i64)))) (nth (nthB lent 0) 0)) (.own false false)]] := by kernel_rfl
      obtain rfl := Nat.eq_of_beq_eq_true hp
      exact (h (listOf (.pair .str (.list .str)) (nth args 1)) (listOf (.pair (.int .i64) (.pair (.pair (.int .i64) (.pair (.int .i64) (.pair .str .bool))) (.pair .str .str))) (nth args 2)) (listOf (.pair .str (.list (.pair .str (.int .i64)))) (nth (nthB lent 0) 0)) κ).symm.trans (cong2 (fun a l => (ev Try.prog cfg k).call 43 a l κ) (e.symm.trans (okC_eq hs.1).symm) (e'.symm.trans (okB_eq hs.2).symm))
    · rfl
  · rfl
theorem F43v1_k (gF95 : tF95) (gF96 : tF96) (gF97v1 : tF97v1) (gF98 : tF98) (gL43v1_0 : tL43v1_0) (cf : CallF) (lf : LoopF) (a1 : T3) (a2 : T8) (b0_0 : T5) (κ : Res → Option Res) : evFn Try.prog cfg (F95_m gF95 (F96_m gF96 (F97v1_m gF97v1 (F98_m gF98 cf)))) (L43v1_0_m gL43v1_0 lf) 43 [.ref 0 0, .list (.pair .str (.list .str)) a1 .no, .list (.pair (.int .i64) (.pair (.pair (.int .i64) (.pair (.int .i64) (.pair .str .bool))) (.pair .str .str))) a2 .no] [[.list (.pair .str (.list (.pair .str (.int .i64)))) b0_0 (.own false false)]] κ = F43v1_B gF95 gF96 gF97v1 gF98 gL43v1_0 a1 a2 b0_0 (fun x => κ ((.tup [.int .i64 x.1, .int .i64 x.2.1], [[.list (.pair .str (.list (.pair .str (.int .i64)))) x.2.2 (.own false false)]]) : Res)) := by
  kernel_rfl
theorem F43v1_ev : ∀ (k : Nat) (a1 : T3) (a2 : T8) (b0_0 : T5) (κ : Res → Option Res), (ev Try.prog cfg k).call 43 [.ref 0 0, .list (.pair .str (.list .str)) a1 .no, .list (.pair (.int .i64) (.pair (.pair (.int .i64) (.pair (.int .i64) (.pair .str .bool))) (.pair .str .str))) a2 .no] [[.list (.pair .str (.list (.pair .str (.int .i64)))) b0_0 (.own false false)]] κ = F43v1 k a1 a2 b0_0 (fun x => κ ((.tup [.int .i64 x.1, .int .i64 x.2.1], [[.list (.pair .str (.list (.pair .str (.int .i64)))) x.2.2 (.own false false)]]) : Res)) := by
  intro k
  induction k with
  | zero => intros; rfl
  | succ k ih =>
    intro a1 a2 b0_0 κ
    refine (ev_call' Try.prog cfg k 43 1 _ _ κ (by rfl)).trans ?_
    rw [← F95_d k (F95_ev k), ← F96_d k (F96_ev k), ← F97v1_d k (F97v1_ev k), ← F98_d k (F98_ev k), ← L43v1_0_d k κ (L43v1_0_ev k κ)]
    exact F43v1_k _ _ _ _ _ _ _ a1 a2 b0_0 κ
def F45_B (gF40 : tF40) (gF39 : tF39) (gF44 : tF44) (gF43 : tF43) (gF43v1 : tF43v1)  (κ : Bool → Option Res) : Option Res :=
  chk1 (gF40  fun x1 =>
   chk2 (gF39 x1 (fun x2 =>
     chk8 (chk8 (chk2 (gF44 (0 : Int) fun x3 =>
        chk2 (gF43 x3 ([((2 : Int), (((0 : Int), ((0 : Int), ((⟨#[]⟩ : ByteArray), false))), ((⟨#[97]⟩ : ByteArray), (⟨#[120]⟩ : ByteArray)))), ((1 : Int), (((1 : Int), ((3 : Int), ((⟨#[]⟩ : ByteArray), false))), ((⟨#[]⟩ : ByteArray), (⟨#[]⟩ : ByteArray)))), ((11 : Int), (((0 : Int), ((0 : Int), ((⟨#[]⟩ : ByteArray), false))), ((⟨#[]⟩ : ByteArray), (⟨#[]⟩ : ByteArray))))] : List T7) fun x4 =>
         chk2 (if (x4.2 == (0 : Int)) = true then
           (chk1 (κ (x4.1 == (3 : Int))))
          else
           (κ false))))))) (fun x5 =>
     chk8 (chk8 (chk2 (gF44 (0 : Int) fun x6 =>
        chk2 (gF43v1 x6 ([((2 : Int), (((0 : Int), ((0 : Int), ((⟨#[]⟩ : ByteArray), false))), ((⟨#[97]⟩ : ByteArray), (⟨#[120]⟩ : ByteArray)))), ((1 : Int), (((1 : Int), ((3 : Int), ((⟨#[]⟩ : ByteArray), false))), ((⟨#[]⟩ : ByteArray), (⟨#[]⟩ : ByteArray)))), ((11 : Int), (((0 : Int), ((0 : Int), ((⟨#[]⟩ : ByteArray), false))), ((⟨#[]⟩ : ByteArray), (⟨#[]⟩ : ByteArray))))] : List T7) x5.2 fun x7 =>
         chk2 (if (x7.2.1 == (0 : Int)) = true then
           (chk1 (κ (x7.1 == (3 : Int))))
          else
           (κ false)))))))))
/-- lamplighter/lamplighterlaw13.awake -/
def F45 : Nat →  (Bool → Option Res) → Option Res
  | 0, _ => none
  | k + 1, κ => F45_B (F40 k) (F39 k) (F44 k) (F43 k) (F43v1 k)  κ
def F45_s : List SC := []
def F45_b : List (List SC) := []
def F45_m (g : (Bool → Option Res) → Option Res) (cf : CallF) : CallF := fun f args lent κ => match Nat.beq f 45 with
  | true => match okC F45_s args && okB F45_b lent with
    | true => g  (fun x => κ ((.bool x, []) : Res))
    | false => cf f args lent κ
  | false => cf f args lent κ
theorem F45_d (k : Nat) (h : ∀  (κ : Res → Option Res), (ev Try.prog cfg k).call 45 [] [] κ = F45 k  (fun x => κ ((.bool x, []) : Res))) : F45_m (F45 k) (ev Try.prog cfg k).call = (ev Try.prog cfg k).call := by
  funext f args lent κ
  unfold F45_m
  split
  · rename_i hp
    split
    · rename_i hs
      rw [Bool.and_eq_true] at hs
      have e : mkC F45_s 0 args = [] := by kernel_rfl
      have e' : mkB F45_b 0 lent = [] := by kernel_rfl
      obtain rfl := Nat.eq_of_beq_eq_true hp
      exact (h  κ).symm.trans (cong2 (fun a l => (ev Try.prog cfg k).call 45 a l κ) (e.symm.trans (okC_eq hs.1).symm) (e'.symm.trans (okB_eq hs.2).symm))
    · rfl
  · rfl
theorem F45_k (gF40 : tF40) (gF39 : tF39) (gF44 : tF44) (gF43 : tF43) (gF43v1 : tF43v1) (cf : CallF) (lf : LoopF)  (κ : Res → Option Res) : evFn Try.prog cfg (F40_m gF40 (F39_m gF39 (F44_m gF44 (F43_m gF43 (F43v1_m gF43v1 cf))))) lf 45 [] [] κ = F45_B gF40 gF39 gF44 gF43 gF43v1  (fun x => κ ((.bool x, []) : Res)) := by
  kernel_rfl
theorem F45_ev : ∀ (k : Nat)  (κ : Res → Option Res), (ev Try.prog cfg k).call 45 [] [] κ = F45 k  (fun x => κ ((.bool x, []) : Res)) := by
  intro k
  induction k with
  | zero => intros; rfl
  | succ k ih =>
    intro  κ
    refine (ev_call' Try.prog cfg k 45 0 _ _ κ (by rfl)).trans ?_
    rw [← F40_d k (F40_ev k), ← F39_d k (F39_ev k), ← F44_d k (F44_ev k), ← F43_d k (F43_ev k), ← F43v1_d k (F43v1_ev k)]
    exact F45_k _ _ _ _ _ _ _  κ
def F6_B (gF40 : tF40) (gF39 : tF39) (gF41 : tF41) (gF42 : tF42) (gF44 : tF44) (gF43 : tF43) (gF45 : tF45) (gF43v1 : tF43v1) (a0 : (List Int)) (a1 : Int) (κ : Bool → Option Res) : Option Res :=
  chk1 (gF40  fun x1 =>
   chk2 (gF39 x1 (fun x2 =>
     chk2 (gF41 a0 (0 : Int) (2 : Int) fun x3 =>
      chk2 (gF42 a0 (0 : Int) (3 : Int) fun x4 =>
       chk2 (gF44 a1 fun x5 =>
        chk2 (gF43 x5 x3.1 fun x6 =>
         chk2 (gF44 a1 fun x7 =>
          chk2 (gF43 x7 x4.1 fun x8 =>
           chk2 (gF45  fun x9 =>
            chk1 (if x9 = true then
              (chk1 (if (x6.2 == (0 : Int)) = true then
                (chk1 (if (x6.1 == (3 : Int)) = true then
                  (chk1 (if (x8.2 == (0 : Int)) = true then
                    (chk1 (κ (x8.1 == (1 : Int))))
                   else
                    (κ false)))
                 else
                  (if false = true then
                   (none)
                  else
                   (κ false))))
               else
                (if false = true then
                 (none)
                else
                 (if false = true then
                  (none)
                 else
                  (κ false)))))
             else
              (if false = true then
               (none)
              else
               (if false = true then
                (none)
               else
                (if false = true then
                 (none)
                else
                 (κ false))))))))))))) (fun x10 =>
     chk2 (gF41 a0 (0 : Int) (2 : Int) fun x11 =>
      chk2 (gF42 a0 (0 : Int) (3 : Int) fun x12 =>
       chk2 (gF44 a1 fun x13 =>
        chk2 (gF43v1 x13 x11.1 x10.2 fun x14 =>
         chk2 (gF44 a1 fun x15 =>
          chk2 (gF43v1 x15 x12.1 x14.2.2 fun x16 =>
           chk2 (gF45  fun x17 =>
            chk1 (if x17 = true then
              (chk1 (if (x14.2.1 == (0 : Int)) = true then
                (chk1 (if (x14.1 == (3 : Int)) = true then
                  (chk1 (if (x16.2.1 == (0 : Int)) = true then
                    (chk1 (κ (x16.1 == (1 : Int))))
                   else
                    (κ false)))
                 else
                  (if false = true then
                   (none)
                  else
                   (κ false))))
               else
                (if false = true then
                 (none)
                else
                 (if false = true then
                  (none)
                 else
                  (κ false)))))
             else
              (if false = true then
               (none)
              else
               (if false = true then
                (none)
               else
                (if false = true then
                 (none)
                else
                 (κ false)))))))))))))))
/-- lamplighter/lamplighterlaw13.TypingMade -/
def F6 : Nat → (List Int) → Int → (Bool → Option Res) → Option Res
  | 0, _, _, _ => none
  | k + 1, a0, a1, κ => F6_B (F40 k) (F39 k) (F41 k) (F42 k) (F44 k) (F43 k) (F45 k) (F43v1 k) a0 a1 κ
def F6_s : List SC := [.one (.list (.int .i64) .no), .one (.int .i64)]
def F6_b : List (List SC) := []
def F6_m (g : (List Int) → Int → (Bool → Option Res) → Option Res) (cf : CallF) : CallF := fun f args lent κ => match Nat.beq f 6 with
  | true => match okC F6_s args && okB F6_b lent with
    | true => g (listOf (.int .i64) (nth args 0)) (intOf (nth args 1)) (fun x => κ ((.bool x, []) : Res))
    | false => cf f args lent κ
  | false => cf f args lent κ
theorem F6_d (k : Nat) (h : ∀ (a0 : (List Int)) (a1 : Int) (κ : Res → Option Res), (ev Try.prog cfg k).call 6 [.list (.int .i64) a0 .no, .int .i64 a1] [] κ = F6 k a0 a1 (fun x => κ ((.bool x, []) : Res))) : F6_m (F6 k) (ev Try.prog cfg k).call = (ev Try.prog cfg k).call := by
  funext f args lent κ
  unfold F6_m
  split
  · rename_i hp
    split
    · rename_i hs
      rw [Bool.and_eq_true] at hs
      have e : mkC F6_s 0 args = [.list (.int .i64) (listOf (.int .i64) (nth args 0)) .no, .int .i64 (intOf (nth args 1))] := by kernel_rfl
      have e' : mkB F6_b 0 lent = [] := by kernel_rfl
      obtain rfl := Nat.eq_of_beq_eq_true hp
      exact (h (listOf (.int .i64) (nth args 0)) (intOf (nth args 1)) κ).symm.trans (cong2 (fun a l => (ev Try.prog cfg k).call 6 a l κ) (e.symm.trans (okC_eq hs.1).symm) (e'.symm.trans (okB_eq hs.2).symm))
    · rfl
  · rfl
theorem F6_k (gF40 : tF40) (gF39 : tF39) (gF41 : tF41) (gF42 : tF42) (gF44 : tF44) (gF43 : tF43) (gF45 : tF45) (gF43v1 : tF43v1) (cf : CallF) (lf : LoopF) (a0 : (List Int)) (a1 : Int) (κ : Res → Option Res) : evFn Try.prog cfg (F40_m gF40 (F39_m gF39 (F41_m gF41 (F42_m gF42 (F44_m gF44 (F43_m gF43 (F45_m gF45 (F43v1_m gF43v1 cf)))))))) lf 6 [.list (.int .i64) a0 .no, .int .i64 a1] [] κ = F6_B gF40 gF39 gF41 gF42 gF44 gF43 gF45 gF43v1 a0 a1 (fun x => κ ((.bool x, []) : Res)) := by
  kernel_rfl
theorem F6_ev : ∀ (k : Nat) (a0 : (List Int)) (a1 : Int) (κ : Res → Option Res), (ev Try.prog cfg k).call 6 [.list (.int .i64) a0 .no, .int .i64 a1] [] κ = F6 k a0 a1 (fun x => κ ((.bool x, []) : Res)) := by
  intro k
  induction k with
  | zero => intros; rfl
  | succ k ih =>
    intro a0 a1 κ
    refine (ev_call' Try.prog cfg k 6 0 _ _ κ (by rfl)).trans ?_
    rw [← F40_d k (F40_ev k), ← F39_d k (F39_ev k), ← F41_d k (F41_ev k), ← F42_d k (F42_ev k), ← F44_d k (F44_ev k), ← F43_d k (F43_ev k), ← F45_d k (F45_ev k), ← F43v1_d k (F43v1_ev k)]
    exact F6_k _ _ _ _ _ _ _ _ _ _ a0 a1 κ
end Go.Proofs.Ytkfphlmbdppbfaa.TyM
