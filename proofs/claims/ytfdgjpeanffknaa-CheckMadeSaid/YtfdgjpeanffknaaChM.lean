/- The functions that 'lamplighter/lamplighterlaw18.CheckMade' reaches, over lists and numbers, and that the machine of values comes to them (printed by wip/vm/gen.py). No condition. -/
import Derived.Test.YtfdgjpeanffknaaChMA
namespace Go.Proofs.Ytfdgjpeanffknaa.ChM
open Go Go.Proofs.Ytfdgjpeanffknaa.Vm
set_option linter.unusedVariables false
set_option maxRecDepth 100000
def L15_0_B (gF13v1 : tF13v1) (gF23 : tF23) (gL15_0 : tL15_0) (κ : Int → Option Res) (p0 : Int) (p1 : (List ByteArray)) (p2 : Int) (p3 : Int) (p4 : T14) (p5 : Int) (p6 : Int) (p7 : ByteArray) (p8 : (List ByteArray)) (p9 : Bool) (p10 : Int) (p11 : Int) (p12 : T8) (K : Int → Option Res) : Option Res :=
  chk1 (if decide (p3 < p2) = true then
    (if (true && (decide ((0 : Int) ≤ p3) && decide (p3 < (p1.length : Int)))) = true then
     (chk1 (gF13v1 (p1.getD p3.toNat (⟨#[]⟩ : ByteArray)) fun x3 =>
      chk4 (if (!x3.2) = true then
        (κ (10 : Int))
       else
        (if (true && (decide ((0 : Int) ≤ p3) && decide (p3 ≤ (p8.length : Int)))) = true then
         (chk1 (gF23 ((p8.take p3.toNat).drop (0 : Int).toNat) (p1.getD p3.toNat (⟨#[]⟩ : ByteArray)) fun x4 =>
          chk1 (if x4 = true then
            (κ (4 : Int))
           else
            (chk1 (gL15_0 p0 p1 p2 (IntKind.wrap .i64 (p3 + (1 : Int))) p4 p5 p6 p7 p8 p9 p10 p11 p12 K)))))
        else
         (none)))))
    else
     (none))
   else
    (K p3))
def L15_0 : Nat → (Int → Option Res) → Int → (List ByteArray) → Int → Int → T14 → Int → Int → ByteArray → (List ByteArray) → Bool → Int → Int → T8 → (Int → Option Res) → Option Res
  | 0, _, _, _, _, _, _, _, _, _, _, _, _, _, _, _ => none
  | k + 1, κ, p0, p1, p2, p3, p4, p5, p6, p7, p8, p9, p10, p11, p12, K => L15_0_B (F13v1 k) (F23 k) (fun p0 p1 p2 p3 p4 p5 p6 p7 p8 p9 p10 p11 p12 K => L15_0 k κ p0 p1 p2 p3 p4 p5 p6 p7 p8 p9 p10 p11 p12 K) κ p0 p1 p2 p3 p4 p5 p6 p7 p8 p9 p10 p11 p12 K
def L15_0_s : Tr SC := Tr.of (nthD (.one .undef) [.one .nilp, .one .undef, .one (.int .i64), .one .undef, .one (.ref 4 0), .one .undef, .one .undef, .one (.ref 7 0), .one .undef, .one .undef, .one .undef, .one .undef, .one .undef, .one .undef, .one .undef, .one .undef, .one .undef, .one .undef, .one .undef, .one .undef, .one .undef, .one .undef, .one .undef, .one .undef, .one .undef, .one .undef, .one .undef, .one .undef, .one .undef, .one .undef, .one .undef, .one .undef, .one .undef, .one .undef, .one .undef, .one .undef, .one .undef, .one .undef, .one .undef, .one .undef, .one .undef, .one .undef, .one (.list .str .no), .one (.int .i64), .one (.int .i64)]) 7
def L15_0_b : Tr (List SC) := Tr.of (nthD [] [[], [], [], [], [.one (.list (.pair .str (.pair (.list .str) (.pair .bool (.pair (.int .i64) (.pair (.int .i64) (.list (.pair (.int .i64) (.pair (.pair (.int .i64) (.pair (.int .i64) (.pair .str .bool))) (.pair .str .str))))))))) .no), .one (.int .i64), .one (.int .i64)], [], [], [.one .str, .one (.list .str .no), .one .bool, .one (.int .i64), .one (.int .i64), .one (.list (.pair (.int .i64) (.pair (.pair (.int .i64) (.pair (.int .i64) (.pair .str .bool))) (.pair .str .str))) .no)]]) 7
def L15_0_m (g : Int → (List ByteArray) → Int → Int → T14 → Int → Int → ByteArray → (List ByteArray) → Bool → Int → Int → T8 → (Int → Option Res) → Option Res) (lf : LoopF) : LoopF := fun p σ K => match pathEq p [true, true, true, true, false, true, false] with
  | true => match okSt 109 L15_0_s L15_0_b σ with
    | true => g (intOf (Tr.val .undef (Tr.rgt σ.slots))) (listOf .str (Tr.val .undef (Tr.lft (Tr.rgt (Tr.lft (Tr.rgt (Tr.rgt σ.slots))))))) (intOf (Tr.val .undef (Tr.lft (Tr.rgt (Tr.rgt (Tr.lft (Tr.lft σ.slots))))))) (intOf (Tr.val .undef (Tr.lft (Tr.rgt (Tr.rgt (Tr.lft (Tr.rgt σ.slots))))))) (listOf (.pair .str (.pair (.list .str) (.pair .bool (.pair (.int .i64) (.pair (.int .i64) (.list (.pair (.int .i64) (.pair (.pair (.int .i64) (.pair (.int .i64) (.pair .str .bool))) (.pair .str .str))))))))) (nth (Tr.val [] (Tr.lft (Tr.rgt σ.boxes))) 0)) (intOf (nth (Tr.val [] (Tr.lft (Tr.rgt σ.boxes))) 1)) (intOf (nth (Tr.val [] (Tr.lft (Tr.rgt σ.boxes))) 2)) (stringOf (nth (Tr.val [] (Tr.lft (Tr.lft (Tr.lft σ.boxes)))) 0)) (listOf .str (nth (Tr.val [] (Tr.lft (Tr.lft (Tr.lft σ.boxes)))) 1)) (boolOf (nth (Tr.val [] (Tr.lft (Tr.lft (Tr.lft σ.boxes)))) 2)) (intOf (nth (Tr.val [] (Tr.lft (Tr.lft (Tr.lft σ.boxes)))) 3)) (intOf (nth (Tr.val [] (Tr.lft (Tr.lft (Tr.lft σ.boxes)))) 4)) (listOf (.pair (.int .i64) (.pair (.pair (.int .i64) (.pair (.int .i64) (.pair .str .bool))) (.pair .str .str))) (nth (Tr.val [] (Tr.lft (Tr.lft (Tr.lft σ.boxes)))) 5)) (fun v => K (.exit 0) ⟨109, Tr.of (nthD .undef [.nilp, .undef, .int .i64 (intOf (Tr.val .undef (Tr.rgt σ.slots))), .undef, .ref 4 0, .undef, .undef, .ref 7 0, .undef, .undef, .undef, .undef, .undef, .undef, .undef, .undef, .undef, .undef, .undef, .undef, .undef, .undef, .undef, .undef, .undef, .undef, .undef, .undef, .undef, .undef, .undef, .undef, .undef, .undef, .undef, .undef, .undef, .undef, .undef, .undef, .undef, .undef, .list .str (listOf .str (Tr.val .undef (Tr.lft (Tr.rgt (Tr.lft (Tr.rgt (Tr.rgt σ.slots))))))) .no, .int .i64 (intOf (Tr.val .undef (Tr.lft (Tr.rgt (Tr.rgt (Tr.lft (Tr.lft σ.slots))))))), .int .i64 v]) 7, Tr.of (nthD [] [[], [], [], [], [.list (.pair .str (.pair (.list .str) (.pair .bool (.pair (.int .i64) (.pair (.int .i64) (.list (.pair (.int .i64) (.pair (.pair (.int .i64) (.pair (.int .i64) (.pair .str .bool))) (.pair .str .str))))))))) (listOf (.pair .str (.pair (.list .str) (.pair .bool (.pair (.int .i64) (.pair (.int .i64) (.list (.pair (.int .i64) (.pair (.pair (.int .i64) (.pair (.int .i64) (.pair .str .bool))) (.pair .str .str))))))))) (nth (Tr.val [] (Tr.lft (Tr.rgt σ.boxes))) 0)) .no, .int .i64 (intOf (nth (Tr.val [] (Tr.lft (Tr.rgt σ.boxes))) 1)), .int .i64 (intOf (nth (Tr.val [] (Tr.lft (Tr.rgt σ.boxes))) 2))], [], [], [.str (stringOf (nth (Tr.val [] (Tr.lft (Tr.lft (Tr.lft σ.boxes)))) 0)), .list .str (listOf .str (nth (Tr.val [] (Tr.lft (Tr.lft (Tr.lft σ.boxes)))) 1)) .no, .bool (boolOf (nth (Tr.val [] (Tr.lft (Tr.lft (Tr.lft σ.boxes)))) 2)), .int .i64 (intOf (nth (Tr.val [] (Tr.lft (Tr.lft (Tr.lft σ.boxes)))) 3)), .int .i64 (intOf (nth (Tr.val [] (Tr.lft (Tr.lft (Tr.lft σ.boxes)))) 4)), .list (.pair (.int .i64) (.pair (.pair (.int .i64) (.pair (.int .i64) (.pair .str .bool))) (.pair .str .str))) (listOf (.pair (.int .i64) (.pair (.pair (.int .i64) (.pair (.int .i64) (.pair .str .bool))) (.pair .str .str))) (nth (Tr.val [] (Tr.lft (Tr.lft (Tr.lft σ.boxes)))) 5)) .no]]) 7⟩)
    | false => lf p σ K
  | false => lf p σ K
theorem L15_0_d (k : Nat) (κ : Res → Option Res) (h : ∀ (p0 : Int) (p1 : (List ByteArray)) (p2 : Int) (p3 : Int) (p4 : T14) (p5 : Int) (p6 : Int) (p7 : ByteArray) (p8 : (List ByteArray)) (p9 : Bool) (p10 : Int) (p11 : Int) (p12 : T8) (K : Cont), (ev Try.prog cfg k).loop 15 0 κ [true, true, true, true, false, true, false] ⟨109, Tr.of (nthD .undef [.nilp, .undef, .int .i64 p0, .undef, .ref 4 0, .undef, .undef, .ref 7 0, .undef, .undef, .undef, .undef, .undef, .undef, .undef, .undef, .undef, .undef, .undef, .undef, .undef, .undef, .undef, .undef, .undef, .undef, .undef, .undef, .undef, .undef, .undef, .undef, .undef, .undef, .undef, .undef, .undef, .undef, .undef, .undef, .undef, .undef, .list .str p1 .no, .int .i64 p2, .int .i64 p3]) 7, Tr.of (nthD [] [[], [], [], [], [.list (.pair .str (.pair (.list .str) (.pair .bool (.pair (.int .i64) (.pair (.int .i64) (.list (.pair (.int .i64) (.pair (.pair (.int .i64) (.pair (.int .i64) (.pair .str .bool))) (.pair .str .str))))))))) p4 .no, .int .i64 p5, .int .i64 p6], [], [], [.str p7, .list .str p8 .no, .bool p9, .int .i64 p10, .int .i64 p11, .list (.pair (.int .i64) (.pair (.pair (.int .i64) (.pair (.int .i64) (.pair .str .bool))) (.pair .str .str))) p12 .no]]) 7⟩ K = L15_0 k (fun x => κ ((.int .i64 x, []) : Res)) p0 p1 p2 p3 p4 p5 p6 p7 p8 p9 p10 p11 p12 (fun v => K (.exit 0) ⟨109, Tr.of (nthD .undef [.nilp, .undef, .int .i64 p0, .undef, .ref 4 0, .undef, .undef, .ref 7 0, .undef, .undef, .undef, .undef, .undef, .undef, .undef, .undef, .undef, .undef, .undef, .undef, .undef, .undef, .undef, .undef, .undef, .undef, .undef, .undef, .undef, .undef, .undef, .undef, .undef, .undef, .undef, .undef, .undef, .undef, .undef, .undef, .undef, .undef, .list .str p1 .no, .int .i64 p2, .int .i64 v]) 7, Tr.of (nthD [] [[], [], [], [], [.list (.pair .str (.pair (.list .str) (.pair .bool (.pair (.int .i64) (.pair (.int .i64) (.list (.pair (.int .i64) (.pair (.pair (.int .i64) (.pair (.int .i64) (.pair .str .bool))) (.pair .str .str))))))))) p4 .no, .int .i64 p5, .int .i64 p6], [], [], [.str p7, .list .str p8 .no, .bool p9, .int .i64 p10, .int .i64 p11, .list (.pair (.int .i64) (.pair (.pair (.int .i64) (.pair (.int .i64) (.pair .str .bool))) (.pair .str .str))) p12 .no]]) 7⟩)) : L15_0_m (L15_0 k (fun x => κ ((.int .i64 x, []) : Res))) ((ev Try.prog cfg k).loop 15 0 κ) = (ev Try.prog cfg k).loop 15 0 κ := by
  funext p σ K
  unfold L15_0_m
  split
  · rename_i hp
    split
    · rename_i hs
      have e : mkSt 109 L15_0_s L15_0_b σ = ⟨109, Tr.of (nthD .undef [.nilp, .undef, .int .i64 (intOf (Tr.val .undef (Tr.rgt σ.slots))), .undef, .ref 4 0, .undef, .undef, .ref 7 0, .undef, .undef, .undef, .undef, .undef, .undef, .undef, .undef, .undef, .undef, .undef, .undef, .undef, .undef, .undef, .undef, .undef, .undef, .undef, .undef, .undef, .undef, .undef, .undef, .undef, .undef, .undef, .undef, .undef, .undef, .undef, .undef, .undef, .undef, .list .str (listOf .str (Tr.val .undef (Tr.lft (Tr.rgt (Tr.lft (Tr.rgt (Tr.rgt σ.slots))))))) .no, .int .i64 (intOf (Tr.val .undef (Tr.lft (Tr.rgt (Tr.rgt (Tr.lft (Tr.lft σ.slots))))))), .int .i64 (intOf (Tr.val .undef (Tr.lft (Tr.rgt (Tr.rgt (Tr.lft (Tr.rgt σ.slots)))))))]) 7, Tr.of (nthD [] [[], [], [], [], [.list (.pair .str (.pair (.list .str) (.pair .bool (.pair (.int .i64) (.pair (.int .i64) (.list (.pair (.int .i64) (.pair (.pair (.int .i64) (.pair (.int .i64) (.pair .str .bool))) (.pair .str .str))))))))) (listOf (.pair .str (.pair (.list .str) (.pair .bool (.pair (.int .i64) (.pair (.int .i64) (.list (.pair (.int .i64) (.pair (.pair (.int .i64) (.pair (.int .i64) (.pair .str .bool))) (.pair .str .str))))))))) (nth (Tr.val [] (Tr.lft (Tr.rgt σ.boxes))) 0)) .no, .int .i64 (intOf (nth (Tr.val [] (Tr.lft (Tr.rgt σ.boxes))) 1)), .int .i64 (intOf (nth (Tr.val [] (Tr.lft (Tr.rgt σ.boxes))) 2))], [], [], [.str (stringOf (nth (Tr.val [] (Tr.lft (Tr.lft (Tr.lft σ.boxes)))) 0)), .list .str (listOf .str (nth (Tr.val [] (Tr.lft (Tr.lft (Tr.lft σ.boxes)))) 1)) .no, .bool (boolOf (nth (Tr.val [] (Tr.lft (Tr.lft (Tr.lft σ.boxes)))) 2)), .int .i64 (intOf (nth (Tr.val [] (Tr.lft (Tr.lft (Tr.lft σ.boxes)))) 3)), .int .i64 (intOf (nth (Tr.val [] (Tr.lft (Tr.lft (Tr.lft σ.boxes)))) 4)), .list (.pair (.int .i64) (.pair (.pair (.int .i64) (.pair (.int .i64) (.pair .str .bool))) (.pair .str .str))) (listOf (.pair (.int .i64) (.pair (.pair (.int .i64) (.pair (.int .i64) (.pair .str .bool))) (.pair .str .str))) (nth (Tr.val [] (Tr.lft (Tr.lft (Tr.lft σ.boxes)))) 5)) .no]]) 7⟩ := by kernel_rfl
      rw [pathEq_eq hp]
      exact (h (intOf (Tr.val .undef (Tr.rgt σ.slots))) (listOf .str (Tr.val .undef (Tr.lft (Tr.rgt (Tr.lft (Tr.rgt (Tr.rgt σ.slots))))))) (intOf (Tr.val .undef (Tr.lft (Tr.rgt (Tr.rgt (Tr.lft (Tr.lft σ.slots))))))) (intOf (Tr.val .undef (Tr.lft (Tr.rgt (Tr.rgt (Tr.lft (Tr.rgt σ.slots))))))) (listOf (.pair .str (.pair (.list .str) (.pair .bool (.pair (.int .i64) (.pair (.int .i64) (.list (.pair (.int .i64) (.pair (.pair (.int .i64) (.pair (.int .i64) (.pair .str .bool))) (.pair .str .str))))))))) (nth (Tr.val [] (Tr.lft (Tr.rgt σ.boxes))) 0)) (intOf (nth (Tr.val [] (Tr.lft (Tr.rgt σ.boxes))) 1)) (intOf (nth (Tr.val [] (Tr.lft (Tr.rgt σ.boxes))) 2)) (stringOf (nth (Tr.val [] (Tr.lft (Tr.lft (Tr.lft σ.boxes)))) 0)) (listOf .str (nth (Tr.val [] (Tr.lft (Tr.lft (Tr.lft σ.boxes)))) 1)) (boolOf (nth (Tr.val [] (Tr.lft (Tr.lft (Tr.lft σ.boxes)))) 2)) (intOf (nth (Tr.val [] (Tr.lft (Tr.lft (Tr.lft σ.boxes)))) 3)) (intOf (nth (Tr.val [] (Tr.lft (Tr.lft (Tr.lft σ.boxes)))) 4)) (listOf (.pair (.int .i64) (.pair (.pair (.int .i64) (.pair (.int .i64) (.pair .str .bool))) (.pair .str .str))) (nth (Tr.val [] (Tr.lft (Tr.lft (Tr.lft σ.boxes)))) 5)) K).symm.trans (congrArg (fun s => (ev Try.prog cfg k).loop 15 0 κ [true, true, true, true, false, true, false] s K) (e.symm.trans (okSt_eq hs).symm))
    · rfl
  · rfl
theorem L15_0_k (gF13v1 : tF13v1) (gF23 : tF23) (gL15_0 : tL15_0) (cf : CallF) (lf : LoopF) (κ : Res → Option Res) (p0 : Int) (p1 : (List ByteArray)) (p2 : Int) (p3 : Int) (p4 : T14) (p5 : Int) (p6 : Int) (p7 : ByteArray) (p8 : (List ByteArray)) (p9 : Bool) (p10 : Int) (p11 : Int) (p12 : T8) (K : Cont) : evLp Try.prog cfg (F13v1_m gF13v1 (F23_m gF23 cf)) (L15_0_m gL15_0 lf) 15 0 κ [true, true, true, true, false, true, false] ⟨109, Tr.of (nthD .undef [.nilp, .undef, .int .i64 p0, .undef, .ref 4 0, .undef, .undef, .ref 7 0, .undef, .undef, .undef, .undef, .undef, .undef, .undef, .undef, .undef, .undef, .undef, .undef, .undef, .undef, .undef, .undef, .undef, .undef, .undef, .undef, .undef, .undef, .undef, .undef, .undef, .undef, .undef, .undef, .undef, .undef, .undef, .undef, .undef, .undef, .list .str p1 .no, .int .i64 p2, .int .i64 p3]) 7, Tr.of (nthD [] [[], [], [], [], [.list (.pair .str (.pair (.list .str) (.pair .bool (.pair (.int .i64) (.pair (.int .i64) (.list (.pair (.int .i64) (.pair (.pair (.int .i64) (.pair (.int .i64) (.pair .str .bool))) (.pair .str .str))))))))) p4 .no, .int .i64 p5, .int .i64 p6], [], [], [.str p7, .list .str p8 .no, .bool p9, .int .i64 p10, .int .i64 p11, .list (.pair (.int .i64) (.pair (.pair (.int .i64) (.pair (.int .i64) (.pair .str .bool))) (.pair .str .str))) p12 .no]]) 7⟩ K = L15_0_B gF13v1 gF23 gL15_0 (fun x => κ ((.int .i64 x, []) : Res)) p0 p1 p2 p3 p4 p5 p6 p7 p8 p9 p10 p11 p12 (fun v => K (.exit 0) ⟨109, Tr.of (nthD .undef [.nilp, .undef, .int .i64 p0, .undef, .ref 4 0, .undef, .undef, .ref 7 0, .undef, .undef, .undef, .undef, .undef, .undef, .undef, .undef, .undef, .undef, .undef, .undef, .undef, .undef, .undef, .undef, .undef, .undef, .undef, .undef, .undef, .undef, .undef, .undef, .undef, .undef, .undef, .undef, .undef, .undef, .undef, .undef, .undef, .undef, .list .str p1 .no, .int .i64 p2, .int .i64 v]) 7, Tr.of (nthD [] [[], [], [], [], [.list (.pair .str (.pair (.list .str) (.pair .bool (.pair (.int .i64) (.pair (.int .i64) (.list (.pair (.int .i64) (.pair (.pair (.int .i64) (.pair (.int .i64) (.pair .str .bool))) (.pair .str .str))))))))) p4 .no, .int .i64 p5, .int .i64 p6], [], [], [.str p7, .list .str p8 .no, .bool p9, .int .i64 p10, .int .i64 p11, .list (.pair (.int .i64) (.pair (.pair (.int .i64) (.pair (.int .i64) (.pair .str .bool))) (.pair .str .str))) p12 .no]]) 7⟩) := by
  kernel_rfl
theorem L15_0_ev : ∀ (k : Nat) (κ : Res → Option Res) (p0 : Int) (p1 : (List ByteArray)) (p2 : Int) (p3 : Int) (p4 : T14) (p5 : Int) (p6 : Int) (p7 : ByteArray) (p8 : (List ByteArray)) (p9 : Bool) (p10 : Int) (p11 : Int) (p12 : T8) (K : Cont), (ev Try.prog cfg k).loop 15 0 κ [true, true, true, true, false, true, false] ⟨109, Tr.of (nthD .undef [.nilp, .undef, .int .i64 p0, .undef, .ref 4 0, .undef, .undef, .ref 7 0, .undef, .undef, .undef, .undef, .undef, .undef, .undef, .undef, .undef, .undef, .undef, .undef, .undef, .undef, .undef, .undef, .undef, .undef, .undef, .undef, .undef, .undef, .undef, .undef, .undef, .undef, .undef, .undef, .undef, .undef, .undef, .undef, .undef, .undef, .list .str p1 .no, .int .i64 p2, .int .i64 p3]) 7, Tr.of (nthD [] [[], [], [], [], [.list (.pair .str (.pair (.list .str) (.pair .bool (.pair (.int .i64) (.pair (.int .i64) (.list (.pair (.int .i64) (.pair (.pair (.int .i64) (.pair (.int .i64) (.pair .str .bool))) (.pair .str .str))))))))) p4 .no, .int .i64 p5, .int .i64 p6], [], [], [.str p7, .list .str p8 .no, .bool p9, .int .i64 p10, .int .i64 p11, .list (.pair (.int .i64) (.pair (.pair (.int .i64) (.pair (.int .i64) (.pair .str .bool))) (.pair .str .str))) p12 .no]]) 7⟩ K = L15_0 k (fun x => κ ((.int .i64 x, []) : Res)) p0 p1 p2 p3 p4 p5 p6 p7 p8 p9 p10 p11 p12 (fun v => K (.exit 0) ⟨109, Tr.of (nthD .undef [.nilp, .undef, .int .i64 p0, .undef, .ref 4 0, .undef, .undef, .ref 7 0, .undef, .undef, .undef, .undef, .undef, .undef, .undef, .undef, .undef, .undef, .undef, .undef, .undef, .undef, .undef, .undef, .undef, .undef, .undef, .undef, .undef, .undef, .undef, .undef, .undef, .undef, .undef, .undef, .undef, .undef, .undef, .undef, .undef, .undef, .list .str p1 .no, .int .i64 p2, .int .i64 v]) 7, Tr.of (nthD [] [[], [], [], [], [.list (.pair .str (.pair (.list .str) (.pair .bool (.pair (.int .i64) (.pair (.int .i64) (.list (.pair (.int .i64) (.pair (.pair (.int .i64) (.pair (.int .i64) (.pair .str .bool))) (.pair .str .str))))))))) p4 .no, .int .i64 p5, .int .i64 p6], [], [], [.str p7, .list .str p8 .no, .bool p9, .int .i64 p10, .int .i64 p11, .list (.pair (.int .i64) (.pair (.pair (.int .i64) (.pair (.int .i64) (.pair .str .bool))) (.pair .str .str))) p12 .no]]) 7⟩) := by
  intro k κ
  induction k with
  | zero => intro p0 p1 p2 p3 p4 p5 p6 p7 p8 p9 p10 p11 p12 K; rfl
  | succ k ih =>
    intro p0 p1 p2 p3 p4 p5 p6 p7 p8 p9 p10 p11 p12 K
    rw [ev_loop, ← F13v1_d k (F13v1_ev k), ← F23_d k (F23_ev k), ← L15_0_d k κ ih]
    exact L15_0_k _ _ _ _ _ κ p0 p1 p2 p3 p4 p5 p6 p7 p8 p9 p10 p11 p12 K
def F15_B (gF11 : tF11) (gF22 : tF22) (gF13v1 : tF13v1) (gF23 : tF23) (gF25 : tF25) (gF24 : tF24) (gL15_0 : tL15_0) (a1 : T15) (a2 : Int) (κ : Int → Option Res) : Option Res :=
  chk1 (if (true && (decide ((0 : Int) ≤ a2) && decide (a2 < (a1.1.length : Int)))) = true then
    (chk4 (gF11 ((a1.1.getD a2.toNat ((⟨#[]⟩ : ByteArray), (([] : List ByteArray), (false, ((0 : Int), ((0 : Int), ([] : List T7))))))).1) fun x1 =>
     chk1 (if (!x1) = true then
       (chk2 (κ (1 : Int)))
      else
       (chk2 (if (((((a1.1.getD a2.toNat ((⟨#[]⟩ : ByteArray), (([] : List ByteArray), (false, ((0 : Int), ((0 : Int), ([] : List T7))))))).2).1).length : Int) == (0 : Int)) = true then
         (chk1 (κ (1 : Int)))
        else
         (chk2 (if decide (((((a1.1.getD a2.toNat ((⟨#[]⟩ : ByteArray), (([] : List ByteArray), (false, ((0 : Int), ((0 : Int), ([] : List T7))))))).2).1).length : Int) > (16 : Int)) = true then
           (κ (1 : Int))
          else
           (chk1 (gF22 a1 ((a1.1.getD a2.toNat ((⟨#[]⟩ : ByteArray), (([] : List ByteArray), (false, ((0 : Int), ((0 : Int), ([] : List T7))))))).1) fun x2 =>
            chk2 (if decide (x2 < a2) = true then
              (κ (4 : Int))
             else
              (chk1 (gL15_0 a2 (((a1.1.getD a2.toNat ((⟨#[]⟩ : ByteArray), (([] : List ByteArray), (false, ((0 : Int), ((0 : Int), ([] : List T7))))))).2).1) ((((a1.1.getD a2.toNat ((⟨#[]⟩ : ByteArray), (([] : List ByteArray), (false, ((0 : Int), ((0 : Int), ([] : List T7))))))).2).1).length : Int) (0 : Int) a1.1 a1.2.1 a1.2.2 ((a1.1.getD a2.toNat ((⟨#[]⟩ : ByteArray), (([] : List ByteArray), (false, ((0 : Int), ((0 : Int), ([] : List T7))))))).1) (((a1.1.getD a2.toNat ((⟨#[]⟩ : ByteArray), (([] : List ByteArray), (false, ((0 : Int), ((0 : Int), ([] : List T7))))))).2).1) ((((a1.1.getD a2.toNat ((⟨#[]⟩ : ByteArray), (([] : List ByteArray), (false, ((0 : Int), ((0 : Int), ([] : List T7))))))).2).2).1) (((((a1.1.getD a2.toNat ((⟨#[]⟩ : ByteArray), (([] : List ByteArray), (false, ((0 : Int), ((0 : Int), ([] : List T7))))))).2).2).2).1) ((((((a1.1.getD a2.toNat ((⟨#[]⟩ : ByteArray), (([] : List ByteArray), (false, ((0 : Int), ((0 : Int), ([] : List T7))))))).2).2).2).2).1) ((((((a1.1.getD a2.toNat ((⟨#[]⟩ : ByteArray), (([] : List ByteArray), (false, ((0 : Int), ((0 : Int), ([] : List T7))))))).2).2).2).2).2) fun v5 =>
               chk1 (if decide ((((((a1.1.getD a2.toNat ((⟨#[]⟩ : ByteArray), (([] : List ByteArray), (false, ((0 : Int), ((0 : Int), ([] : List T7))))))).2).2).2).1) < (1 : Int)) = true then
                 (chk3 (κ (1 : Int)))
                else
                 (chk1 (if decide (((((((a1.1.getD a2.toNat ((⟨#[]⟩ : ByteArray), (([] : List ByteArray), (false, ((0 : Int), ((0 : Int), ([] : List T7))))))).2).2).2).2).1) < (((((a1.1.getD a2.toNat ((⟨#[]⟩ : ByteArray), (([] : List ByteArray), (false, ((0 : Int), ((0 : Int), ([] : List T7))))))).2).2).2).1)) = true then
                   (chk2 (κ (1 : Int)))
                  else
                   (chk1 (if decide (((((((a1.1.getD a2.toNat ((⟨#[]⟩ : ByteArray), (([] : List ByteArray), (false, ((0 : Int), ((0 : Int), ([] : List T7))))))).2).2).2).2).1) > (4 : Int)) = true then
                     (chk1 (κ (1 : Int)))
                    else
                     (if (((a1.1.getD a2.toNat ((⟨#[]⟩ : ByteArray), (([] : List ByteArray), (false, ((0 : Int), ((0 : Int), ([] : List T7))))))).2).2).1 = true then
                      (chk1 (if (((((((a1.1.getD a2.toNat ((⟨#[]⟩ : ByteArray), (([] : List ByteArray), (false, ((0 : Int), ((0 : Int), ([] : List T7))))))).2).2).2).2).1) != (1 : Int)) = true then
                        (κ (1 : Int))
                       else
                        (chk2 (if ((((((((a1.1.getD a2.toNat ((⟨#[]⟩ : ByteArray), (([] : List ByteArray), (false, ((0 : Int), ((0 : Int), ([] : List T7))))))).2).2).2).2).2).length : Int) == (0 : Int)) = true then
                          (κ (0 : Int))
                         else
                          (chk1 (gF25 a1 a2 fun x6 =>
                           chk2 (gF24 x6 ((((((a1.1.getD a2.toNat ((⟨#[]⟩ : ByteArray), (([] : List ByteArray), (false, ((0 : Int), ((0 : Int), ([] : List T7))))))).2).2).2).2).2) fun x7 =>
                            chk2 (if (x7.2 == (0 : Int)) = true then
                              (chk1 (if (x7.1 != (3 : Int)) = true then
                                (κ (10 : Int))
                               else
                                (κ x7.2)))
                             else
                              (if false = true then
                               (none)
                              else
                               (κ x7.2))))))))))
                     else
                      (if false = true then
                       (none)
                      else
                       (chk2 (if ((((((((a1.1.getD a2.toNat ((⟨#[]⟩ : ByteArray), (([] : List ByteArray), (false, ((0 : Int), ((0 : Int), ([] : List T7))))))).2).2).2).2).2).length : Int) == (0 : Int)) = true then
                         (κ (0 : Int))
                        else
                         (chk1 (gF25 a1 a2 fun x8 =>
                          chk2 (gF24 x8 ((((((a1.1.getD a2.toNat ((⟨#[]⟩ : ByteArray), (([] : List ByteArray), (false, ((0 : Int), ((0 : Int), ([] : List T7))))))).2).2).2).2).2) fun x9 =>
                           chk2 (if (x9.2 == (0 : Int)) = true then
                             (chk1 (if (x9.1 != (3 : Int)) = true then
                               (κ (10 : Int))
                              else
                               (κ x9.2)))
                            else
                             (if false = true then
                              (none)
                             else
                              (κ x9.2)))))))))))))))))))))))))))
   else
    (none))
/-- lamplighter/check.elem -/
def F15 : Nat → T15 → Int → (Int → Option Res) → Option Res
  | 0, _, _, _ => none
  | k + 1, a1, a2, κ => F15_B (F11 k) (F22 k) (F13v1 k) (F23 k) (F25 k) (F24 k) (L15_0 k κ) a1 a2 κ
def F15_s : List SC := [.one .nilp, .agg [.list (.pair .str (.pair (.list .str) (.pair .bool (.pair (.int .i64) (.pair (.int .i64) (.list (.pair (.int .i64) (.pair (.pair (.int .i64) (.pair (.int .i64) (.pair .str .bool))) (.pair .str .str))))))))) .no, .int .i64, .int .i64], .one (.int .i64)]
def F15_b : List (List SC) := []
def F15_m (g : T15 → Int → (Int → Option Res) → Option Res) (cf : CallF) : CallF := fun f args lent κ => match Nat.beq f 15 with
  | true => match okC F15_s args && okB F15_b lent with
    | true => g ((listOf (.pair .str (.pair (.list .str) (.pair .bool (.pair (.int .i64) (.pair (.int .i64) (.list (.pair (.int .i64) (.pair (.pair (.int .i64) (.pair (.int .i64) (.pair .str .bool))) (.pair .str .str))))))))) (nth (aggOf (nth args 1)) 0)), ((intOf (nth (aggOf (nth args 1)) 1)), (intOf (nth (aggOf (nth args 1)) 2)))) (intOf (nth args 2)) (fun x => κ ((.int .i64 x, []) : Res))
    | false => cf f args lent κ
  | false => cf f args lent κ
theorem F15_d (k : Nat) (h : ∀ (a1 : T15) (a2 : Int) (κ : Res → Option Res), (ev Try.prog cfg k).call 15 [.nilp, .agg [.list (.pair .str (.pair (.list .str) (.pair .bool (.pair (.int .i64) (.pair (.int .i64) (.list (.pair (.int .i64) (.pair (.pair (.int .i64) (.pair (.int .i64) (.pair .str .bool))) (.pair .str .str))))))))) a1.1 .no, .int .i64 a1.2.1, .int .i64 a1.2.2], .int .i64 a2] [] κ = F15 k a1 a2 (fun x => κ ((.int .i64 x, []) : Res))) : F15_m (F15 k) (ev Try.prog cfg k).call = (ev Try.prog cfg k).call := by
  funext f args lent κ
  unfold F15_m
  split
  · rename_i hp
    split
    · rename_i hs
      rw [Bool.and_eq_true] at hs
      have e : mkC F15_s 0 args = [.nilp, .agg [.list (.pair .str (.pair (.list .str) (.pair .bool (.pair (.int .i64) (.pair (.int .i64) (.list (.pair (.int .i64) (.pair (.pair (.int .i64) (.pair (.int .i64) (.pair .str .bool))) (.pair .str .str))))))))) (listOf (.pair .str (.pair (.list .str) (.pair .bool (.pair (.int .i64) (.pair (.int .i64) (.list (.pair (.int .i64) (.pair (.pair (.int .i64) (.pair (.int .i64) (.pair .str .bool))) (.pair .str .str))))))))) (nth (aggOf (nth args 1)) 0)) .no, .int .i64 (intOf (nth (aggOf (nth args 1)) 1)), .int .i64 (intOf (nth (aggOf (nth args 1)) 2))], .int .i64 (intOf (nth args 2))] := by kernel_rfl
      have e' : mkB F15_b 0 lent = [] := by kernel_rfl
      obtain rfl := Nat.eq_of_beq_eq_true hp
      exact (h ((listOf (.pair .str (.pair (.list .str) (.pair .bool (.pair (.int .i64) (.pair (.int .i64) (.list (.pair (.int .i64) (.pair (.pair (.int .i64) (.pair (.int .i64) (.pair .str .bool))) (.pair .str .str))))))))) (nth (aggOf (nth args 1)) 0)), ((intOf (nth (aggOf (nth args 1)) 1)), (intOf (nth (aggOf (nth args 1)) 2)))) (intOf (nth args 2)) κ).symm.trans (cong2 (fun a l => (ev Try.prog cfg k).call 15 a l κ) (e.symm.trans (okC_eq hs.1).symm) (e'.symm.trans (okB_eq hs.2).symm))
    · rfl
  · rfl
theorem F15_k (gF11 : tF11) (gF22 : tF22) (gF13v1 : tF13v1) (gF23 : tF23) (gF25 : tF25) (gF24 : tF24) (gL15_0 : tL15_0) (cf : CallF) (lf : LoopF) (a1 : T15) (a2 : Int) (κ : Res → Option Res) : evFn Try.prog cfg (F11_m gF11 (F22_m gF22 (F13v1_m gF13v1 (F23_m gF23 (F25_m gF25 (F24_m gF24 cf)))))) (L15_0_m gL15_0 lf) 15 [.nilp, .agg [.list (.pair .str (.pair (.list .str) (.pair .bool (.pair (.int .i64) (.pair (.int .i64) (.list (.pair (.int .i64) (.pair (.pair (.int .i64) (.pair (.int .i64) (.pair .str .bool))) (.pair .str .str))))))))) a1.1 .no, .int .i64 a1.2.1, .int .i64 a1.2.2], .int .i64 a2] [] κ = F15_B gF11 gF22 gF13v1 gF23 gF25 gF24 gL15_0 a1 a2 (fun x => κ ((.int .i64 x, []) : Res)) := by
  kernel_rfl
theorem F15_ev : ∀ (k : Nat) (a1 : T15) (a2 : Int) (κ : Res → Option Res), (ev Try.prog cfg k).call 15 [.nilp, .agg [.list (.pair .str (.pair (.list .str) (.pair .bool (.pair (.int .i64) (.pair (.int .i64) (.list (.pair (.int .i64) (.pair (.pair (.int .i64) (.pair (.int .i64) (.pair .str .bool))) (.pair .str .str))))))))) a1.1 .no, .int .i64 a1.2.1, .int .i64 a1.2.2], .int .i64 a2] [] κ = F15 k a1 a2 (fun x => κ ((.int .i64 x, []) : Res)) := by
  intro k
  induction k with
  | zero => intros; rfl
  | succ k ih =>
    intro a1 a2 κ
    refine (ev_call' Try.prog cfg k 15 0 _ _ κ (by rfl)).trans ?_
    rw [← F11_d k (F11_ev k), ← F22_d k (F22_ev k), ← F13v1_d k (F13v1_ev k), ← F23_d k (F23_ev k), ← F25_d k (F25_ev k), ← F24_d k (F24_ev k), ← L15_0_d k κ (L15_0_ev k κ)]
    exact F15_k _ _ _ _ _ _ _ _ _ a1 a2 κ
def L9_0_B (gF15 : tF15) (gL9_0 : tL9_0) (κ : Int → Option Res) (p0 : Int) (p1 : Int) (p2 : T14) (p3 : Int) (p4 : Int) (K : Int → Option Res) : Option Res :=
  chk1 (if decide (p1 < p0) = true then
    (chk1 (gF15 (p2, (p3, p4)) p1 fun x1 =>
     chk2 (if (x1 != (0 : Int)) = true then
       (κ x1)
      else
       (chk1 (gL9_0 p0 (IntKind.wrap .i64 (p1 + (1 : Int))) p2 p3 p4 K)))))
   else
    (K p1))
def L9_0 : Nat → (Int → Option Res) → Int → Int → T14 → Int → Int → (Int → Option Res) → Option Res
  | 0, _, _, _, _, _, _, _ => none
  | k + 1, κ, p0, p1, p2, p3, p4, K => L9_0_B (F15 k) (fun p0 p1 p2 p3 p4 K => L9_0 k κ p0 p1 p2 p3 p4 K) κ p0 p1 p2 p3 p4 K
def L9_0_s : Tr SC := Tr.of (nthD (.one .undef) [.one .nilp, .one .undef, .one .undef, .one (.ref 3 0), .one .undef, .one .undef, .one .undef, .one .undef, .one .undef, .one .undef, .one .undef, .one .undef, .one .undef, .one .undef, .one .undef, .one .undef, .one .undef, .one .undef, .one .undef, .one .undef, .one .undef, .one .undef, .one .undef, .one .undef, .one .undef, .one .undef, .one .undef, .one .undef, .one .undef, .one .undef, .one .undef, .one .undef, .one .undef, .one .undef, .one .undef, .one (.int .i64), .one (.int .i64)]) 7
def L9_0_b : Tr (List SC) := Tr.of (nthD [] [[], [], [], [.one (.list (.pair .str (.pair (.list .str) (.pair .bool (.pair (.int .i64) (.pair (.int .i64) (.list (.pair (.int .i64) (.pair (.pair (.int .i64) (.pair (.int .i64) (.pair .str .bool))) (.pair .str .str))))))))) .no), .one (.int .i64), .one (.int .i64)]]) 7
def L9_0_m (g : Int → Int → T14 → Int → Int → (Int → Option Res) → Option Res) (lf : LoopF) : LoopF := fun p σ K => match pathEq p [true, true, true, false, true, false] with
  | true => match okSt 65 L9_0_s L9_0_b σ with
    | true => g (intOf (Tr.val .undef (Tr.lft (Tr.lft (Tr.rgt (Tr.lft (Tr.lft σ.slots))))))) (intOf (Tr.val .undef (Tr.lft (Tr.lft (Tr.rgt (Tr.lft (Tr.rgt σ.slots))))))) (listOf (.pair .str (.pair (.list .str) (.pair .bool (.pair (.int .i64) (.pair (.int .i64) (.list (.pair (.int .i64) (.pair (.pair (.int .i64) (.pair (.int .i64) (.pair .str .bool))) (.pair .str .str))))))))) (nth (Tr.val [] (Tr.lft (Tr.lft σ.boxes))) 0)) (intOf (nth (Tr.val [] (Tr.lft (Tr.lft σ.boxes))) 1)) (intOf (nth (Tr.val [] (Tr.lft (Tr.lft σ.boxes))) 2)) (fun v => K (.exit 1) ⟨65, Tr.of (nthD .undef [.nilp, .undef, .undef, .ref 3 0, .undef, .undef, .undef, .undef, .undef, .undef, .undef, .undef, .undef, .undef, .undef, .undef, .undef, .undef, .undef, .undef, .undef, .undef, .undef, .undef, .undef, .undef, .undef, .undef, .undef, .undef, .undef, .undef, .undef, .undef, .undef, .int .i64 (intOf (Tr.val .undef (Tr.lft (Tr.lft (Tr.rgt (Tr.lft (Tr.lft σ.slots))))))), .int .i64 v]) 7, Tr.of (nthD [] [[], [], [], [.list (.pair .str (.pair (.list .str) (.pair .bool (.pair (.int .i64) (.pair (.int .i64) (.list (.pair (.int .i64) (.pair (.pair (.int .i64) (.pair (.int .i64) (.pair .str .bool))) (.pair .str .str))))))))) (listOf (.pair .str (.pair (.list .str) (.pair .bool (.pair (.int .i64) (.pair (.int .i64) (.list (.pair (.int .i64) (.pair (.pair (.int .i64) (.pair (.int .i64) (.pair .str .bool))) (.pair .str .str))))))))) (nth (Tr.val [] (Tr.lft (Tr.lft σ.boxes))) 0)) .no, .int .i64 (intOf (nth (Tr.val [] (Tr.lft (Tr.lft σ.boxes))) 1)), .int .i64 (intOf (nth (Tr.val [] (Tr.lft (Tr.lft σ.boxes))) 2))]]) 7⟩)
    | false => lf p σ K
  | false => lf p σ K
theorem L9_0_d (k : Nat) (κ : Res → Option Res) (h : ∀ (p0 : Int) (p1 : Int) (p2 : T14) (p3 : Int) (p4 : Int) (K : Cont), (ev Try.prog cfg k).loop 9 0 κ [true, true, true, false, true, false] ⟨65, Tr.of (nthD .undef [.nilp, .undef, .undef, .ref 3 0, .undef, .undef, .undef, .undef, .undef, .undef, .undef, .undef, .undef, .undef, .undef, .undef, .undef, .undef, .undef, .undef, .undef, .undef, .undef, .undef, .undef, .undef, .undef, .undef, .undef, .undef, .undef, .undef, .undef, .undef, .undef, .int .i64 p0, .int .i64 p1]) 7, Tr.of (nthD [] [[], [], [], [.list (.pair .str (.pair (.list .str) (.pair .bool (.pair (.int .i64) (.pair (.int .i64) (.list (.pair (.int .i64) (.pair (.pair (.int .i64) (.pair (.int .i64) (.pair .str .bool))) (.pair .str .str))))))))) p2 .no, .int .i64 p3, .int .i64 p4]]) 7⟩ K = L9_0 k (fun x => κ ((.int .i64 x, []) : Res)) p0 p1 p2 p3 p4 (fun v => K (.exit 1) ⟨65, Tr.of (nthD .undef [.nilp, .undef, .undef, .ref 3 0, .undef, .undef, .undef, .undef, .undef, .undef, .undef, .undef, .undef, .undef, .undef, .undef, .undef, .undef, .undef, .undef, .undef, .undef, .undef, .undef, .undef, .undef, .undef, .undef, .undef, .undef, .undef, .undef, .undef, .undef, .undef, .int .i64 p0, .int .i64 v]) 7, Tr.of (nthD [] [[], [], [], [.list (.pair .str (.pair (.list .str) (.pair .bool (.pair (.int .i64) (.pair (.int .i64) (.list (.pair (.int .i64) (.pair (.pair (.int .i64) (.pair (.int .i64) (.pair .str .bool))) (.pair .str .str))))))))) p2 .no, .int .i64 p3, .int .i64 p4]]) 7⟩)) : L9_0_m (L9_0 k (fun x => κ ((.int .i64 x, []) : Res))) ((ev Try.prog cfg k).loop 9 0 κ) = (ev Try.prog cfg k).loop 9 0 κ := by
  funext p σ K
  unfold L9_0_m
  split
  · rename_i hp
    split
    · rename_i hs
      have e : mkSt 65 L9_0_s L9_0_b σ = ⟨65, Tr.of (nthD .undef [.nilp, .undef, .undef, .ref 3 0, .undef, .undef, .undef, .undef, .undef, .undef, .undef, .undef, .undef, .undef, .undef, .undef, .undef, .undef, .undef, .undef, .undef, .undef, .undef, .undef, .undef, .undef, .undef, .undef, .undef, .undef, .undef, .undef, .undef, .undef, .undef, .int .i64 (intOf (Tr.val .undef (Tr.lft (Tr.lft (Tr.rgt (Tr.lft (Tr.lft σ.slots))))))), .int .i64 (intOf (Tr.val .undef (Tr.lft (Tr.lft (Tr.rgt (Tr.lft (Tr.rgt σ.slots)))))))]) 7, Tr.of (nthD [] [[], [], [], [.list (.pair .str (.pair (.list .str) (.pair .bool (.pair (.int .i64) (.pair (.int .i64) (.list (.pair (.int .i64) (.pair (.pair (.int .i64) (.pair (.int .i64) (.pair .str .bool))) (.pair .str .str))))))))) (listOf (.pair .str (.pair (.list .str) (.pair .bool (.pair (.int .i64) (.pair (.int .i64) (.list (.pair (.int .i64) (.pair (.pair (.int .i64) (.pair (.int .i64) (.pair .str .bool))) (.pair .str .str))))))))) (nth (Tr.val [] (Tr.lft (Tr.lft σ.boxes))) 0)) .no, .int .i64 (intOf (nth (Tr.val [] (Tr.lft (Tr.lft σ.boxes))) 1)), .int .i64 (intOf (nth (Tr.val [] (Tr.lft (Tr.lft σ.boxes))) 2))]]) 7⟩ := by kernel_rfl
      rw [pathEq_eq hp]
      exact (h (intOf (Tr.val .undef (Tr.lft (Tr.lft (Tr.rgt (Tr.lft (Tr.lft σ.slots))))))) (intOf (Tr.val .undef (Tr.lft (Tr.lft (Tr.rgt (Tr.lft (Tr.rgt σ.slots))))))) (listOf (.pair .str (.pair (.list .str) (.pair .bool (.pair (.int .i64) (.pair (.int .i64) (.list (.pair (.int .i64) (.pair (.pair (.int .i64) (.pair (.int .i64) (.pair .str .bool))) (.pair .str .str))))))))) (nth (Tr.val [] (Tr.lft (Tr.lft σ.boxes))) 0)) (intOf (nth (Tr.val [] (Tr.lft (Tr.lft σ.boxes))) 1)) (intOf (nth (Tr.val [] (Tr.lft (Tr.lft σ.boxes))) 2)) K).symm.trans (congrArg (fun s => (ev Try.prog cfg k).loop 9 0 κ [true, true, true, false, true, false] s K) (e.symm.trans (okSt_eq hs).symm))
    · rfl
  · rfl
theorem L9_0_k (gF15 : tF15) (gL9_0 : tL9_0) (cf : CallF) (lf : LoopF) (κ : Res → Option Res) (p0 : Int) (p1 : Int) (p2 : T14) (p3 : Int) (p4 : Int) (K : Cont) : evLp Try.prog cfg (F15_m gF15 cf) (L9_0_m gL9_0 lf) 9 0 κ [true, true, true, false, true, false] ⟨65, Tr.of (nthD .undef [.nilp, .undef, .undef, .ref 3 0, .undef, .undef, .undef, .undef, .undef, .undef, .undef, .undef, .undef, .undef, .undef, .undef, .undef, .undef, .undef, .undef, .undef, .undef, .undef, .undef, .undef, .undef, .undef, .undef, .undef, .undef, .undef, .undef, .undef, .undef, .undef, .int .i64 p0, .int .i64 p1]) 7, Tr.of (nthD [] [[], [], [], [.list (.pair .str (.pair (.list .str) (.pair .bool (.pair (.int .i64) (.pair (.int .i64) (.list (.pair (.int .i64) (.pair (.pair (.int .i64) (.pair (.int .i64) (.pair .str .bool))) (.pair .str .str))))))))) p2 .no, .int .i64 p3, .int .i64 p4]]) 7⟩ K = L9_0_B gF15 gL9_0 (fun x => κ ((.int .i64 x, []) : Res)) p0 p1 p2 p3 p4 (fun v => K (.exit 1) ⟨65, Tr.of (nthD .undef [.nilp, .undef, .undef, .ref 3 0, .undef, .undef, .undef, .undef, .undef, .undef, .undef, .undef, .undef, .undef, .undef, .undef, .undef, .undef, .undef, .undef, .undef, .undef, .undef, .undef, .undef, .undef, .undef, .undef, .undef, .undef, .undef, .undef, .undef, .undef, .undef, .int .i64 p0, .int .i64 v]) 7, Tr.of (nthD [] [[], [], [], [.list (.pair .str (.pair (.list .str) (.pair .bool (.pair (.int .i64) (.pair (.int .i64) (.list (.pair (.int .i64) (.pair (.pair (.int .i64) (.pair (.int .i64) (.pair .str .bool))) (.pair .str .str))))))))) p2 .no, .int .i64 p3, .int .i64 p4]]) 7⟩) := by
  kernel_rfl
theorem L9_0_ev : ∀ (k : Nat) (κ : Res → Option Res) (p0 : Int) (p1 : Int) (p2 : T14) (p3 : Int) (p4 : Int) (K : Cont), (ev Try.prog cfg k).loop 9 0 κ [true, true, true, false, true, false] ⟨65, Tr.of (nthD .undef [.nilp, .undef, .undef, .ref 3 0, .undef, .undef, .undef, .undef, .undef, .undef, .undef, .undef, .undef, .undef, .undef, .undef, .undef, .undef, .undef, .undef, .undef, .undef, .undef, .undef, .undef, .undef, .undef, .undef, .undef, .undef, .undef, .undef, .undef, .undef, .undef, .int .i64 p0, .int .i64 p1]) 7, Tr.of (nthD [] [[], [], [], [.list (.pair .str (.pair (.list .str) (.pair .bool (.pair (.int .i64) (.pair (.int .i64) (.list (.pair (.int .i64) (.pair (.pair (.int .i64) (.pair (.int .i64) (.pair .str .bool))) (.pair .str .str))))))))) p2 .no, .int .i64 p3, .int .i64 p4]]) 7⟩ K = L9_0 k (fun x => κ ((.int .i64 x, []) : Res)) p0 p1 p2 p3 p4 (fun v => K (.exit 1) ⟨65, Tr.of (nthD .undef [.nilp, .undef, .undef, .ref 3 0, .undef, .undef, .undef, .undef, .undef, .undef, .undef, .undef, .undef, .undef, .undef, .undef, .undef, .undef, .undef, .undef, .undef, .undef, .undef, .undef, .undef, .undef, .undef, .undef, .undef, .undef, .undef, .undef, .undef, .undef, .undef, .int .i64 p0, .int .i64 v]) 7, Tr.of (nthD [] [[], [], [], [.list (.pair .str (.pair (.list .str) (.pair .bool (.pair (.int .i64) (.pair (.int .i64) (.list (.pair (.int .i64) (.pair (.pair (.int .i64) (.pair (.int .i64) (.pair .str .bool))) (.pair .str .str))))))))) p2 .no, .int .i64 p3, .int .i64 p4]]) 7⟩) := by
  intro k κ
  induction k with
  | zero => intro p0 p1 p2 p3 p4 K; rfl
  | succ k ih =>
    intro p0 p1 p2 p3 p4 K
    rw [ev_loop, ← F15_d k (F15_ev k), ← L9_0_d k κ ih]
    exact L9_0_k _ _ _ _ κ p0 p1 p2 p3 p4 K
def F9_B (gF15 : tF15) (gL9_0 : tL9_0) (a1 : T15) (κ : Int → Option Res) : Option Res :=
  chk3 (if decide ((a1.1.length : Int) > (8 : Int)) = true then
    (κ (5 : Int))
   else
    (chk1 (if ((a1.1.length : Int) == (0 : Int)) = true then
      (chk2 (κ (1 : Int)))
     else
      (if (true && (true && decide ((0 : Int) < (a1.1.length : Int)))) = true then
       (if (((a1.1.getD (0 : Int).toNat ((⟨#[]⟩ : ByteArray), (([] : List ByteArray), (false, ((0 : Int), ((0 : Int), ([] : List T7))))))).2).2).1 = true then
        (chk1 (κ (1 : Int)))
       else
        (chk1 (if (true && (decide ((0 : Int) ≤ (IntKind.wrap .i64 ((a1.1.length : Int) - (1 : Int)))) && decide ((IntKind.wrap .i64 ((a1.1.length : Int) - (1 : Int))) < (a1.1.length : Int)))) = true then
          (if (((a1.1.getD (IntKind.wrap .i64 ((a1.1.length : Int) - (1 : Int))).toNat ((⟨#[]⟩ : ByteArray), (([] : List ByteArray), (false, ((0 : Int), ((0 : Int), ([] : List T7))))))).2).2).1 = true then
           (κ (1 : Int))
          else
           (chk1 (gL9_0 (a1.1.length : Int) (0 : Int) a1.1 a1.2.1 a1.2.2 fun v2 =>
            chk1 (if decide (a1.2.1 < (1 : Int)) = true then
              (chk1 (κ (13 : Int)))
             else
              (chk1 (if decide (a1.2.1 > (4294967296 : Int)) = true then
                (κ (13 : Int))
               else
                (chk1 (if decide (a1.2.2 < (1 : Int)) = true then
                  (chk1 (κ (5 : Int)))
                 else
                  (chk1 (if decide (a1.2.2 > (1000 : Int)) = true then
                    (κ (5 : Int))
                   else
                    (κ (0 : Int))))))))))))
         else
          (none))))
      else
       (none)))))
/-- lamplighter/check.Query -/
def F9 : Nat → T15 → (Int → Option Res) → Option Res
  | 0, _, _ => none
  | k + 1, a1, κ => F9_B (F15 k) (L9_0 k κ) a1 κ
def F9_s : List SC := [.one .nilp, .agg [.list (.pair .str (.pair (.list .str) (.pair .bool (.pair (.int .i64) (.pair (.int .i64) (.list (.pair (.int .i64) (.pair (.pair (.int .i64) (.pair (.int .i64) (.pair .str .bool))) (.pair .str .str))))))))) .no, .int .i64, .int .i64]]
def F9_b : List (List SC) := []
def F9_m (g : T15 → (Int → Option Res) → Option Res) (cf : CallF) : CallF := fun f args lent κ => match Nat.beq f 9 with
  | true => match okC F9_s args && okB F9_b lent with
    | true => g ((listOf (.pair .str (.pair (.list .str) (.pair .bool (.pair (.int .i64) (.pair (.int .i64) (.list (.pair (.int .i64) (.pair (.pair (.int .i64) (.pair (.int .i64) (.pair .str .bool))) (.pair .str .str))))))))) (nth (aggOf (nth args 1)) 0)), ((intOf (nth (aggOf (nth args 1)) 1)), (intOf (nth (aggOf (nth args 1)) 2)))) (fun x => κ ((.int .i64 x, []) : Res))
    | false => cf f args lent κ
  | false => cf f args lent κ
theorem F9_d (k : Nat) (h : ∀ (a1 : T15) (κ : Res → Option Res), (ev Try.prog cfg k).call 9 [.nilp, .agg [.list (.pair .str (.pair (.list .str) (.pair .bool (.pair (.int .i64) (.pair (.int .i64) (.list (.pair (.int .i64) (.pair (.pair (.int .i64) (.pair (.int .i64) (.pair .str .bool))) (.pair .str .str))))))))) a1.1 .no, .int .i64 a1.2.1, .int .i64 a1.2.2]] [] κ = F9 k a1 (fun x => κ ((.int .i64 x, []) : Res))) : F9_m (F9 k) (ev Try.prog cfg k).call = (ev Try.prog cfg k).call := by
  funext f args lent κ
  unfold F9_m
  split
  · rename_i hp
    split
    · rename_i hs
      rw [Bool.and_eq_true] at hs
      have e : mkC F9_s 0 args = [.nilp, .agg [.list (.pair .str (.pair (.list .str) (.pair .bool (.pair (.int .i64) (.pair (.int .i64) (.list (.pair (.int .i64) (.pair (.pair (.int .i64) (.pair (.int .i64) (.pair .str .bool))) (.pair .str .str))))))))) (listOf (.pair .str (.pair (.list .str) (.pair .bool (.pair (.int .i64) (.pair (.int .i64) (.list (.pair (.int .i64) (.pair (.pair (.int .i64) (.pair (.int .i64) (.pair .str .bool))) (.pair .str .str))))))))) (nth (aggOf (nth args 1)) 0)) .no, .int .i64 (intOf (nth (aggOf (nth args 1)) 1)), .int .i64 (intOf (nth (aggOf (nth args 1)) 2))]] := by kernel_rfl
      have e' : mkB F9_b 0 lent = [] := by kernel_rfl
      obtain rfl := Nat.eq_of_beq_eq_true hp
      exact (h ((listOf (.pair .str (.pair (.list .str) (.pair .bool (.pair (.int .i64) (.pair (.int .i64) (.list (.pair (.int .i64) (.pair (.pair (.int .i64) (.pair (.int .i64) (.pair .str .bool))) (.pair .str .str))))))))) (nth (aggOf (nth args 1)) 0)), ((intOf (nth (aggOf (nth args 1)) 1)), (intOf (nth (aggOf (nth args 1)) 2)))) κ).symm.trans (cong2 (fun a l => (ev Try.prog cfg k).call 9 a l κ) (e.symm.trans (okC_eq hs.1).symm) (e'.symm.trans (okB_eq hs.2).symm))
    · rfl
  · rfl
theorem F9_k (gF15 : tF15) (gL9_0 : tL9_0) (cf : CallF) (lf : LoopF) (a1 : T15) (κ : Res → Option Res) : evFn Try.prog cfg (F15_m gF15 cf) (L9_0_m gL9_0 lf) 9 [.nilp, .agg [.list (.pair .str (.pair (.list .str) (.pair .bool (.pair (.int .i64) (.pair (.int .i64) (.list (.pair (.int .i64) (.pair (.pair (.int .i64) (.pair (.int .i64) (.pair .str .bool))) (.pair .str .str))))))))) a1.1 .no, .int .i64 a1.2.1, .int .i64 a1.2.2]] [] κ = F9_B gF15 gL9_0 a1 (fun x => κ ((.int .i64 x, []) : Res)) := by
  kernel_rfl
theorem F9_ev : ∀ (k : Nat) (a1 : T15) (κ : Res → Option Res), (ev Try.prog cfg k).call 9 [.nilp, .agg [.list (.pair .str (.pair (.list .str) (.pair .bool (.pair (.int .i64) (.pair (.int .i64) (.list (.pair (.int .i64) (.pair (.pair (.int .i64) (.pair (.int .i64) (.pair .str .bool))) (.pair .str .str))))))))) a1.1 .no, .int .i64 a1.2.1, .int .i64 a1.2.2]] [] κ = F9 k a1 (fun x => κ ((.int .i64 x, []) : Res)) := by
  intro k
  induction k with
  | zero => intros; rfl
  | succ k ih =>
    intro a1 κ
    refine (ev_call' Try.prog cfg k 9 0 _ _ κ (by rfl)).trans ?_
    rw [← F15_d k (F15_ev k), ← L9_0_d k κ (L9_0_ev k κ)]
    exact F9_k _ _ _ _ a1 κ
def L40v1_0_B (gL40v1_0 : tL40v1_0) (κ : Int × Int × T5 → Option Res) (p0 : ByteArray) (p1 : (List (ByteArray × Int))) (p2 : Int) (p3 : Int) (p4 : T5) (K : Int → Option Res) : Option Res :=
  chk1 (if decide (p3 < p2) = true then
    (if (true && (decide ((0 : Int) ≤ p3) && decide (p3 < (p1.length : Int)))) = true then
     (chk4 (if (((p1.getD p3.toNat ((⟨#[]⟩ : ByteArray), (0 : Int))).1).toList == p0.toList) = true then
       (κ (p3, ((p1.getD p3.toNat ((⟨#[]⟩ : ByteArray), (0 : Int))).2, p4)))
      else
       (chk1 (gL40v1_0 p0 p1 p2 (IntKind.wrap .i64 (p3 + (1 : Int))) p4 K))))
    else
     (none))
   else
    (K p3))
def L40v1_0 : Nat → (Int × Int × T5 → Option Res) → ByteArray → (List (ByteArray × Int)) → Int → Int → T5 → (Int → Option Res) → Option Res
  | 0, _, _, _, _, _, _, _ => none
  | k + 1, κ, p0, p1, p2, p3, p4, K => L40v1_0_B (fun p0 p1 p2 p3 p4 K => L40v1_0 k κ p0 p1 p2 p3 p4 K) κ p0 p1 p2 p3 p4 K
def L40v1_0_s : Tr SC := Tr.of (nthD (.one .undef) [.one .undef, .one .undef, .one .str, .one .undef, .one .undef, .one .undef, .one .undef, .one .undef, .one .undef, .one .undef, .one .undef, .one .undef, .one .undef, .one .undef, .one .undef, .one .undef, .one .undef, .one .undef, .one .undef, .one (.list (.pair .str (.int .i64)) .no), .one (.int .i64), .one (.int .i64)]) 6
def L40v1_0_b : Tr (List SC) := Tr.of (nthD [] [[], [], [], [], [], [], [], [], [], [], [], [], [], [], [], [], [], [], [], [], [], [], [], [], [], [], [], [], [], [], [], [], [], [], [.one (.list (.pair .str (.list (.pair .str (.int .i64)))) (.own false false))]]) 6
def L40v1_0_m (g : ByteArray → (List (ByteArray × Int)) → Int → Int → T5 → (Int → Option Res) → Option Res) (lf : LoopF) : LoopF := fun p σ K => match pathEq p [true, true, false, true, false] with
  | true => match okSt 34 L40v1_0_s L40v1_0_b σ with
    | true => g (stringOf (Tr.val .undef (Tr.rgt σ.slots))) (listOf (.pair .str (.int .i64)) (Tr.val .undef (Tr.lft (Tr.rgt (Tr.lft (Tr.lft σ.slots)))))) (intOf (Tr.val .undef (Tr.lft (Tr.rgt (Tr.lft (Tr.rgt σ.slots)))))) (intOf (Tr.val .undef (Tr.lft (Tr.rgt (Tr.rgt (Tr.lft σ.slots)))))) (listOf (.pair .str (.list (.pair .str (.int .i64)))) (nth (Tr.val [] (Tr.lft (Tr.lft (Tr.lft (Tr.rgt (Tr.rgt σ.boxes)))))) 0)) (fun v => K (.exit 0) ⟨34, Tr.of (nthD .undef [.undef, .undef, .str (stringOf (Tr.val .undef (Tr.rgt σ.slots))), .undef, .undef, .undef, .undef, .undef, .undef, .undef, .undef, .undef, .undef, .undef, .undef, .undef, .undef, .undef, .undef, .list (.pair .str (.int .i64)) (listOf (.pair .str (.int .i64)) (Tr.val .undef (Tr.lft (Tr.rgt (Tr.lft (Tr.lft σ.slots)))))) .no, .int .i64 (intOf (Tr.val .undef (Tr.lft (Tr.rgt (Tr.lft (Tr.rgt σ.slots)))))), .int .i64 v]) 6, Tr.of (nthD [] [[], [], [], [], [], [], [], [], [], [], [], [], [], [], [], [], [], [], [], [], [], [], [], [], [], [], [], [], [], [], [], [], [], [], [.list (.pair .str (.list (.pair .str (.int .i64)))) (listOf (.pair .str (.list (.pair .str (.int .i64)))) (nth (Tr.val [] (Tr.lft (Tr.lft (Tr.lft (Tr.rgt (Tr.rgt σ.boxes)))))) 0)) (.own false false)]]) 6⟩)
    | false => lf p σ K
  | false => lf p σ K
theorem L40v1_0_d (k : Nat) (κ : Res → Option Res) (h : ∀ (p0 : ByteArray) (p1 : (List (ByteArray × Int))) (p2 : Int) (p3 : Int) (p4 : T5) (K : Cont), (ev Try.prog cfg k).loop 40 1 κ [true, true, false, true, false] ⟨34, Tr.of (nthD .undef [.undef, .undef, .str p0, .undef, .undef, .undef, .undef, .undef, .undef, .undef, .undef, .undef, .undef, .undef, .undef, .undef, .undef, .undef, .undef, .list (.pair .str (.int .i64)) p1 .no, .int .i64 p2, .int .i64 p3]) 6, Tr.of (nthD [] [[], [], [], [], [], [], [], [], [], [], [], [], [], [], [], [], [], [], [], [], [], [], [], [], [], [], [], [], [], [], [], [], [], [], [.list (.pair .str (.list (.pair .str (.int .i64)))) p4 (.own false false)]]) 6⟩ K = L40v1_0 k (fun x => κ ((.tup [.int .i64 x.1, .int .i64 x.2.1], [[.list (.pair .str (.list (.pair .str (.int .i64)))) x.2.2 (.own false false)]]) : Res)) p0 p1 p2 p3 p4 (fun v => K (.exit 0) ⟨34, Tr.of (nthD .undef [.undef, .undef, .str p0, .undef, .undef, .undef, .undef, .undef, .undef, .undef, .undef, .undef, .undef, .undef, .undef, .undef, .undef, .undef, .undef, .list (.pair .str (.int .i64)) p1 .no, .int .i64 p2, .int .i64 v]) 6, Tr.of (nthD [] [[], [], [], [], [], [], [], [], [], [], [], [], [], [], [], [], [], [], [], [], [], [], [], [], [], [], [], [], [], [], [], [], [], [], [.list (.pair .str (.list (.pair .str (.int .i64)))) p4 (.own false false)]]) 6⟩)) : L40v1_0_m (L40v1_0 k (fun x => κ ((.tup [.int .i64 x.1, .int .i64 x.2.1], [[.list (.pair .str (.list (.pair .str (.int .i64)))) x.2.2 (.own false false)]]) : Res))) ((ev Try.prog cfg k).loop 40 1 κ) = (ev Try.prog cfg k).loop 40 1 κ := by
  funext p σ K
  unfold L40v1_0_m
  split
  · rename_i hp
    split
    · rename_i hs
      have e : mkSt 34 L40v1_0_s L40v1_0_b σ = ⟨34, Tr.of (nthD .undef [.undef, .undef, .str (stringOf (Tr.val .undef (Tr.rgt σ.slots))), .undef, .undef, .undef, .undef, .undef, .undef, .undef, .undef, .undef, .undef, .undef, .undef, .undef, .undef, .undef, .undef, .list (.pair .str (.int .i64)) (listOf (.pair .str (.int .i64)) (Tr.val .undef (Tr.lft (Tr.rgt (Tr.lft (Tr.lft σ.slots)))))) .no, .int .i64 (intOf (Tr.val .undef (Tr.lft (Tr.rgt (Tr.lft (Tr.rgt σ.slots)))))), .int .i64 (intOf (Tr.val .undef (Tr.lft (Tr.rgt (Tr.rgt (Tr.lft σ.slots))))))]) 6, Tr.of (nthD [] [[], [], [], [], [], [], [], [], [], [], [], [], [], [], [], [], [], [], [], [], [], [], [], [], [], [], [], [], [], [], [], [], [], [], [.list (.pair .str (.list (.pair .str (.int .i64)))) (listOf (.pair .str (.list (.pair .str (.int .i64)))) (nth (Tr.val [] (Tr.lft (Tr.lft (Tr.lft (Tr.rgt (Tr.rgt σ.boxes)))))) 0)) (.own false false)]]) 6⟩ := by kernel_rfl
      rw [pathEq_eq hp]
      exact (h (stringOf (Tr.val .undef (Tr.rgt σ.slots))) (listOf (.pair .str (.int .i64)) (Tr.val .undef (Tr.lft (Tr.rgt (Tr.lft (Tr.lft σ.slots)))))) (intOf (Tr.val .undef (Tr.lft (Tr.rgt (Tr.lft (Tr.rgt σ.slots)))))) (intOf (Tr.val .undef (Tr.lft (Tr.rgt (Tr.rgt (Tr.lft σ.slots)))))) (listOf (.pair .str (.list (.pair .str (.int .i64)))) (nth (Tr.val [] (Tr.lft (Tr.lft (Tr.lft (Tr.rgt (Tr.rgt σ.boxes)))))) 0)) K).symm.trans (congrArg (fun s => (ev Try.prog cfg k).loop 40 1 κ [true, true, false, true, false] s K) (e.symm.trans (okSt_eq hs).symm))
    · rfl
  · rfl
theorem L40v1_0_k (gL40v1_0 : tL40v1_0) (cf : CallF) (lf : LoopF) (κ : Res → Option Res) (p0 : ByteArray) (p1 : (List (ByteArray × Int))) (p2 : Int) (p3 : Int) (p4 : T5) (K : Cont) : evLp Try.prog cfg cf (L40v1_0_m gL40v1_0 lf) 40 1 κ [true, true, false, true, false] ⟨34, Tr.of (nthD .undef [.undef, .undef, .str p0, .undef, .undef, .undef, .undef, .undef, .undef, .undef, .undef, .undef, .undef, .undef, .undef, .undef, .undef, .undef, .undef, .list (.pair .str (.int .i64)) p1 .no, .int .i64 p2, .int .i64 p3]) 6, Tr.of (nthD [] [[], [], [], [], [], [], [], [], [], [], [], [], [], [], [], [], [], [], [], [], [], [], [], [], [], [], [], [], [], [], [], [], [], [], [.list (.pair .str (.list (.pair .str (.int .i64)))) p4 (.own false false)]]) 6⟩ K = L40v1_0_B gL40v1_0 (fun x => κ ((.tup [.int .i64 x.1, .int .i64 x.2.1], [[.list (.pair .str (.list (.pair .str (.int .i64)))) x.2.2 (.own false false)]]) : Res)) p0 p1 p2 p3 p4 (fun v => K (.exit 0) ⟨34, Tr.of (nthD .undef [.undef, .undef, .str p0, .undef, .undef, .undef, .undef, .undef, .undef, .undef, .undef, .undef, .undef, .undef, .undef, .undef, .undef, .undef, .undef, .list (.pair .str (.int .i64)) p1 .no, .int .i64 p2, .int .i64 v]) 6, Tr.of (nthD [] [[], [], [], [], [], [], [], [], [], [], [], [], [], [], [], [], [], [], [], [], [], [], [], [], [], [], [], [], [], [], [], [], [], [], [.list (.pair .str (.list (.pair .str (.int .i64)))) p4 (.own false false)]]) 6⟩) := by
  kernel_rfl
theorem L40v1_0_ev : ∀ (k : Nat) (κ : Res → Option Res) (p0 : ByteArray) (p1 : (List (ByteArray × Int))) (p2 : Int) (p3 : Int) (p4 : T5) (K : Cont), (ev Try.prog cfg k).loop 40 1 κ [true, true, false, true, false] ⟨34, Tr.of (nthD .undef [.undef, .undef, .str p0, .undef, .undef, .undef, .undef, .undef, .undef, .undef, .undef, .undef, .undef, .undef, .undef, .undef, .undef, .undef, .undef, .list (.pair .str (.int .i64)) p1 .no, .int .i64 p2, .int .i64 p3]) 6, Tr.of (nthD [] [[], [], [], [], [], [], [], [], [], [], [], [], [], [], [], [], [], [], [], [], [], [], [], [], [], [], [], [], [], [], [], [], [], [], [.list (.pair .str (.list (.pair .str (.int .i64)))) p4 (.own false false)]]) 6⟩ K = L40v1_0 k (fun x => κ ((.tup [.int .i64 x.1, .int .i64 x.2.1], [[.list (.pair .str (.list (.pair .str (.int .i64)))) x.2.2 (.own false false)]]) : Res)) p0 p1 p2 p3 p4 (fun v => K (.exit 0) ⟨34, Tr.of (nthD .undef [.undef, .undef, .str p0, .undef, .undef, .undef, .undef, .undef, .undef, .undef, .undef, .undef, .undef, .undef, .undef, .undef, .undef, .undef, .undef, .list (.pair .str (.int .i64)) p1 .no, .int .i64 p2, .int .i64 v]) 6, Tr.of (nthD [] [[], [], [], [], [], [], [], [], [], [], [], [], [], [], [], [], [], [], [], [], [], [], [], [], [], [], [], [], [], [], [], [], [], [], [.list (.pair .str (.list (.pair .str (.int .i64)))) p4 (.own false false)]]) 6⟩) := by
  intro k κ
  induction k with
  | zero => intro p0 p1 p2 p3 p4 K; rfl
  | succ k ih =>
    intro p0 p1 p2 p3 p4 K
    rw [ev_loop, ← L40v1_0_d k κ ih]
    exact L40v1_0_k _ _ _ κ p0 p1 p2 p3 p4 K
def F40v1_B (gF13 : tF13) (gL40v1_0 : tL40v1_0) (a1 : ByteArray) (a2 : ByteArray) (b0_0 : T5) (κ : Int × Int × T5 → Option Res) : Option Res :=
  chk1 (gF13 a1 b0_0 fun x1 =>
   chk5 (gL40v1_0 a2 x1.1.2 (x1.1.2.length : Int) (0 : Int) x1.2.2 fun v2 =>
    κ ((-1 : Int), ((0 : Int), x1.2.2))))
/-- (*lamplighter/schema.Schema).Field -/
def F40v1 : Nat → ByteArray → ByteArray → T5 → (Int × Int × T5 → Option Res) → Option Res
  | 0, _, _, _, _ => none
  | k + 1, a1, a2, b0_0, κ => F40v1_B (F13 k) (L40v1_0 k κ) a1 a2 b0_0 κ
def F40v1_s : List SC := [.one (.ref 0 0), .one .str, .one .str]
def F40v1_b : List (List SC) := [[.one (.list (.pair .str (.list (.pair .str (.int .i64)))) (.own false false))]]
def F40v1_m (g : ByteArray → ByteArray → T5 → (Int × Int × T5 → Option Res) → Option Res) (cf : CallF) : CallF := fun f args lent κ => match Nat.beq f 40 with
  | true => match okC F40v1_s args && okB F40v1_b lent with
    | true => g (stringOf (nth args 1)) (stringOf (nth args 2)) (listOf (.pair .str (.list (.pair .str (.int .i64)))) (nth (nthB lent 0) 0)) (fun x => κ ((.tup [.int .i64 x.1, .int .i64 x.2.1], [[.list (.pair .str (.list (.pair .str (.int .i64)))) x.2.2 (.own false false)]]) : Res))
    | false => cf f args lent κ
  | false => cf f args lent κ
theorem F40v1_d (k : Nat) (h : ∀ (a1 : ByteArray) (a2 : ByteArray) (b0_0 : T5) (κ : Res → Option Res), (ev Try.prog cfg k).call 40 [.ref 0 0, .str a1, .str a2] [[.list (.pair .str (.list (.pair .str (.int .i64)))) b0_0 (.own false false)]] κ = F40v1 k a1 a2 b0_0 (fun x => κ ((.tup [.int .i64 x.1, .int .i64 x.2.1], [[.list (.pair .str (.list (.pair .str (.int .i64)))) x.2.2 (.own false false)]]) : Res))) : F40v1_m (F40v1 k) (ev Try.prog cfg k).call = (ev Try.prog cfg k).call := by
  funext f args lent κ
  unfold F40v1_m
  split
  · rename_i hp
    split
    · rename_i hs
      rw [Bool.and_eq_true] at hs
      have e : mkC F40v1_s 0 args = [.ref 0 0, .str (stringOf (nth args 1)), .str (stringOf (nth args 2))] := by kernel_rfl
      have e' : mkB F40v1_b 0 lent = [[.list (.pair .str (.list (.pair .str (.int .i64)))) (listOf (.pair .str (.list (.pair .str (.int .i64)))) (nth (nthB lent 0) 0)) (.own false false)]] := by kernel_rfl
      obtain rfl := Nat.eq_of_beq_eq_true hp
      exact (h (stringOf (nth args 1)) (stringOf (nth args 2)) (listOf (.pair .str (.list (.pair .str (.int .i64)))) (nth (nthB lent 0) 0)) κ).symm.trans (cong2 (fun a l => (ev Try.prog cfg k).call 40 a l κ) (e.symm.trans (okC_eq hs.1).symm) (e'.symm.trans (okB_eq hs.2).symm))
    · rfl
  · rfl
theorem F40v1_k (gF13 : tF13) (gL40v1_0 : tL40v1_0) (cf : CallF) (lf : LoopF) (a1 : ByteArray) (a2 : ByteArray) (b0_0 : T5) (κ : Res → Option Res) : evFn Try.prog cfg (F13_m gF13 cf) (L40v1_0_m gL40v1_0 lf) 40 [.ref 0 0, .str a1, .str a2] [[.list (.pair .str (.list (.pair .str (.int .i64)))) b0_0 (.own false false)]] κ = F40v1_B gF13 gL40v1_0 a1 a2 b0_0 (fun x => κ ((.tup [.int .i64 x.1, .int .i64 x.2.1], [[.list (.pair .str (.list (.pair .str (.int .i64)))) x.2.2 (.own false false)]]) : Res)) := by
  kernel_rfl
theorem F40v1_ev : ∀ (k : Nat) (a1 : ByteArray) (a2 : ByteArray) (b0_0 : T5) (κ : Res → Option Res), (ev Try.prog cfg k).call 40 [.ref 0 0, .str a1, .str a2] [[.list (.pair .str (.list (.pair .str (.int .i64)))) b0_0 (.own false false)]] κ = F40v1 k a1 a2 b0_0 (fun x => κ ((.tup [.int .i64 x.1, .int .i64 x.2.1], [[.list (.pair .str (.list (.pair .str (.int .i64)))) x.2.2 (.own false false)]]) : Res)) := by
  intro k
  induction k with
  | zero => intros; rfl
  | succ k ih =>
    intro a1 a2 b0_0 κ
    refine (ev_call' Try.prog cfg k 40 1 _ _ κ (by rfl)).trans ?_
    rw [← F13_d k (F13_ev k), ← L40v1_0_d k κ (L40v1_0_ev k κ)]
    exact F40v1_k _ _ _ _ a1 a2 b0_0 κ
def L34v1_0_B (gF40v1 : tF40v1) (gL34v1_0 : tL34v1_0) (κ : Int × Int × T5 → Option Res) (p0 : Int) (p1 : (List ByteArray)) (p2 : Int) (p3 : Int) (p4 : Int) (p5 : Int) (p6 : Int) (p7 : ByteArray) (p8 : Bool) (p9 : ByteArray) (p10 : ByteArray) (p11 : T5) (K : Int × Int × T5 → Option Res) : Option Res :=
  chk1 (if decide (p3 < p2) = true then
    (if (true && (decide ((0 : Int) ≤ p3) && decide (p3 < (p1.length : Int)))) = true then
     (chk1 (gF40v1 (p1.getD p3.toNat (⟨#[]⟩ : ByteArray)) p10 p11 fun x2 =>
      chk2 (if decide (x2.1 < (0 : Int)) = true then
        (chk1 (κ ((0 : Int), ((10 : Int), x2.2.2))))
       else
        (chk1 (if (p0 != (0 : Int)) = true then
          (chk1 (if (x2.2.1 != p0) = true then
            (κ ((0 : Int), ((10 : Int), x2.2.2)))
           else
            (chk1 (gL34v1_0 x2.2.1 p1 p2 (IntKind.wrap .i64 (p3 + (1 : Int))) p4 p5 p6 p7 p8 p9 p10 x2.2.2 K))))
         else
          (if false = true then
           (none)
          else
           (chk1 (gL34v1_0 x2.2.1 p1 p2 (IntKind.wrap .i64 (p3 + (1 : Int))) p4 p5 p6 p7 p8 p9 p10 x2.2.2 K))))))))
    else
     (none))
   else
    (K (p0, (p3, p11))))
def L34v1_0 : Nat → (Int × Int × T5 → Option Res) → Int → (List ByteArray) → Int → Int → Int → Int → Int → ByteArray → Bool → ByteArray → ByteArray → T5 → (Int × Int × T5 → Option Res) → Option Res
  | 0, _, _, _, _, _, _, _, _, _, _, _, _, _, _ => none
  | k + 1, κ, p0, p1, p2, p3, p4, p5, p6, p7, p8, p9, p10, p11, K => L34v1_0_B (F40v1 k) (fun p0 p1 p2 p3 p4 p5 p6 p7 p8 p9 p10 p11 K => L34v1_0 k κ p0 p1 p2 p3 p4 p5 p6 p7 p8 p9 p10 p11 K) κ p0 p1 p2 p3 p4 p5 p6 p7 p8 p9 p10 p11 K
def L34v1_0_s : Tr SC := Tr.of (nthD (.one .undef) [.one (.ref 53 0), .one .undef, .one .undef, .one .undef, .one .undef, .one (.ref 5 0), .one .undef, .one .undef, .one .undef, .one (.int .i64), .one .undef, .one .undef, .one .undef, .one .undef, .one .undef, .one .undef, .one .undef, .one .undef, .one .undef, .one .undef, .one .undef, .one .undef, .one .undef, .one (.list .str .no), .one (.int .i64), .one (.int .i64)]) 6
def L34v1_0_b : Tr (List SC) := Tr.of (nthD [] [[], [], [], [], [], [.one (.int .i64), .one (.int .i64), .one (.int .i64), .one .str, .one .bool, .one .str, .one .str], [], [], [], [], [], [], [], [], [], [], [], [], [], [], [], [], [], [], [], [], [], [], [], [], [], [], [], [], [], [], [], [], [], [], [], [], [], [], [], [], [], [], [], [], [], [], [], [.one (.list (.pair .str (.list (.pair .str (.int .i64)))) (.own false false))]]) 6
def L34v1_0_m (g : Int → (List ByteArray) → Int → Int → Int → Int → Int → ByteArray → Bool → ByteArray → ByteArray → T5 → (Int × Int × T5 → Option Res) → Option Res) (lf : LoopF) : LoopF := fun p σ K => match pathEq p [true, true, true, true, false, true, false] with
  | true => match okSt 53 L34v1_0_s L34v1_0_b σ with
    | true => g (intOf (Tr.val .undef (Tr.lft (Tr.rgt (Tr.lft σ.slots))))) (listOf .str (Tr.val .undef (Tr.rgt (Tr.lft (Tr.lft (Tr.lft σ.slots)))))) (intOf (Tr.val .undef (Tr.rgt (Tr.lft (Tr.lft (Tr.rgt σ.slots)))))) (intOf (Tr.val .undef (Tr.rgt (Tr.lft (Tr.rgt (Tr.lft σ.slots)))))) (intOf (nth (Tr.val [] (Tr.rgt (Tr.lft σ.boxes))) 0)) (intOf (nth (Tr.val [] (Tr.rgt (Tr.lft σ.boxes))) 1)) (intOf (nth (Tr.val [] (Tr.rgt (Tr.lft σ.boxes))) 2)) (stringOf (nth (Tr.val [] (Tr.rgt (Tr.lft σ.boxes))) 3)) (boolOf (nth (Tr.val [] (Tr.rgt (Tr.lft σ.boxes))) 4)) (stringOf (nth (Tr.val [] (Tr.rgt (Tr.lft σ.boxes))) 5)) (stringOf (nth (Tr.val [] (Tr.rgt (Tr.lft σ.boxes))) 6)) (listOf (.pair .str (.list (.pair .str (.int .i64)))) (nth (Tr.val [] (Tr.rgt (Tr.lft (Tr.rgt (Tr.rgt (Tr.lft σ.boxes)))))) 0)) (fun v => K (.exit 0) ⟨53, Tr.of (nthD .undef [.ref 53 0, .undef, .undef, .undef, .undef, .ref 5 0, .undef, .undef, .undef, .int .i64 v.1, .undef, .undef, .undef, .undef, .undef, .undef, .undef, .undef, .undef, .undef, .undef, .undef, .undef, .list .str (listOf .str (Tr.val .undef (Tr.rgt (Tr.lft (Tr.lft (Tr.lft σ.slots)))))) .no, .int .i64 (intOf (Tr.val .undef (Tr.rgt (Tr.lft (Tr.lft (Tr.rgt σ.slots)))))), .int .i64 v.2.1]) 6, Tr.of (nthD [] [[], [], [], [], [], [.int .i64 (intOf (nth (Tr.val [] (Tr.rgt (Tr.lft σ.boxes))) 0)), .int .i64 (intOf (nth (Tr.val [] (Tr.rgt (Tr.lft σ.boxes))) 1)), .int .i64 (intOf (nth (Tr.val [] (Tr.rgt (Tr.lft σ.boxes))) 2)), .str (stringOf (nth (Tr.val [] (Tr.rgt (Tr.lft σ.boxes))) 3)), .bool (boolOf (nth (Tr.val [] (Tr.rgt (Tr.lft σ.boxes))) 4)), .str (stringOf (nth (Tr.val [] (Tr.rgt (Tr.lft σ.boxes))) 5)), .str (stringOf (nth (Tr.val [] (Tr.rgt (Tr.lft σ.boxes))) 6))], [], [], [], [], [], [], [], [], [], [], [], [], [], [], [], [], [], [], [], [], [], [], [], [], [], [], [], [], [], [], [], [], [], [], [], [], [], [], [], [], [], [], [], [], [], [], [], [.list (.pair .str (.list (.pair .str (.int .i64)))) v.2.2 (.own false false)]]) 6⟩)
    | false => lf p σ K
  | false => lf p σ K
theorem L34v1_0_d (k : Nat) (κ : Res → Option Res) (h : ∀ (p0 : Int) (p1 : (List ByteArray)) (p2 : Int) (p3 : Int) (p4 : Int) (p5 : Int) (p6 : Int) (p7 : ByteArray) (p8 : Bool) (p9 : ByteArray) (p10 : ByteArray) (p11 : T5) (K : Cont), (ev Try.prog cfg k).loop 34 1 κ [true, true, true, true, false, true, false] ⟨53, Tr.of (nthD .undef [.ref 53 0, .undef, .undef, .undef, .undef, .ref 5 0, .undef, .undef, .undef, .int .i64 p0, .undef, .undef, .undef, .undef, .undef, .undef, .undef, .undef, .undef, .undef, .undef, .undef, .undef, .list .str p1 .no, .int .i64 p2, .int .i64 p3]) 6, Tr.of (nthD [] [[], [], [], [], [], [.int .i64 p4, .int .i64 p5, .int .i64 p6, .str p7, .bool p8, .str p9, .str p10], [], [], [], [], [], [], [], [], [], [], [], [], [], [], [], [], [], [], [], [], [], [], [], [], [], [], [], [], [], [], [], [], [], [], [], [], [], [], [], [], [], [], [], [], [], [], [], [.list (.pair .str (.list (.pair .str (.int .i64)))) p11 (.own false false)]]) 6⟩ K = L34v1_0 k (fun x => κ ((.tup [.int .i64 x.1, .int .i64 x.2.1], [[.list (.pair .str (.list (.pair .str (.int .i64)))) x.2.2 (.own false false)]]) : Res)) p0 p1 p2 p3 p4 p5 p6 p7 p8 p9 p10 p11 (fun v => K (.exit 0) ⟨53, Tr.of (nthD .undef [.ref 53 0, .undef, .undef, .undef, .undef, .ref 5 0, .undef, .undef, .undef, .int .i64 v.1, .undef, .undef, .undef, .undef, .undef, .undef, .undef, .undef, .undef, .undef, .undef, .undef, .undef, .list .str p1 .no, .int .i64 p2, .int .i64 v.2.1]) 6, Tr.of (nthD [] [[], [], [], [], [], [.int .i64 p4, .int .i64 p5, .int .i64 p6, .str p7, .bool p8, .str p9, .str p10], [], [], [], [], [], [], [], [], [], [], [], [], [], [], [], [], [], [], [], [], [], [], [], [], [], [], [], [], [], [], [], [], [], [], [], [], [], [], [], [], [], [], [], [], [], [], [], [.list (.pair .str (.list (.pair .str (.int .i64)))) v.2.2 (.own false false)]]) 6⟩)) : L34v1_0_m (L34v1_0 k (fun x => κ ((.tup [.int .i64 x.1, .int .i64 x.2.1], [[.list (.pair .str (.list (.pair .str (.int .i64)))) x.2.2 (.own false false)]]) : Res))) ((ev Try.prog cfg k).loop 34 1 κ) = (ev Try.prog cfg k).loop 34 1 κ := by
  funext p σ K
  unfold L34v1_0_m
  split
  · rename_i hp
    split
    · rename_i hs
      have e : mkSt 53 L34v1_0_s L34v1_0_b σ = ⟨53, Tr.of (nthD .undef [.ref 53 0, .undef, .undef, .undef, .undef, .ref 5 0, .undef, .undef, .undef, .int .i64 (intOf (Tr.val .undef (Tr.lft (Tr.rgt (Tr.lft σ.slots))))), .undef, .undef, .undef, .undef, .undef, .undef, .undef, .undef, .undef, .undef, .undef, .undef, .undef, .list .str (listOf .str (Tr.val .undef (Tr.rgt (Tr.lft (Tr.lft (Tr.lft σ.slots)))))) .no, .int .i64 (intOf (Tr.val .undef (Tr.rgt (Tr.lft (Tr.lft (Tr.rgt σ.slots)))))), .int .i64 (intOf (Tr.val .undef (Tr.rgt (Tr.lft (Tr.rgt (Tr.lft σ.slots))))))]) 6, Tr.of (nthD [] [[], [], [], [], [], [.int .i64 (intOf (nth (Tr.val [] (Tr.rgt (Tr.lft σ.boxes))) 0)), .int .i64 (intOf (nth (Tr.val [] (Tr.rgt (Tr.lft σ.boxes))) 1)), .int .i64 (intOf (nth (Tr.val [] (Tr.rgt (Tr.lft σ.boxes))) 2)), .str (stringOf (nth (Tr.val [] (Tr.rgt (Tr.lft σ.boxes))) 3)), .bool (boolOf (nth (Tr.val [] (Tr.rgt (Tr.lft σ.boxes))) 4)), .str (stringOf (nth (Tr.val [] (Tr.rgt (Tr.lft σ.boxes))) 5)), .str (stringOf (nth (Tr.val [] (Tr.rgt (Tr.lft σ.boxes))) 6))], [], [], [], [], [], [], [], [], [], [], [], [], [], [], [], [], [], [], [], [], [], [], [], [], [], [], [], [], [], [], [], [], [], [], [], [], [], [], [], [], [], [], [], [], [], [], [], [.list (.pair .str (.list (.pair .str (.int .i64)))) (listOf (.pair .str (.list (.pair .str (.int .i64)))) (nth (Tr.val [] (Tr.rgt (Tr.lft (Tr.rgt (Tr.rgt (Tr.lft σ.boxes)))))) 0)) (.own false false)]]) 6⟩ := by kernel_rfl
      rw [pathEq_eq hp]
      exact (h (intOf (Tr.val .undef (Tr.lft (Tr.rgt (Tr.lft σ.slots))))) (listOf .str (Tr.val .undef (Tr.rgt (Tr.lft (Tr.lft (Tr.lft σ.slots)))))) (intOf (Tr.val .undef (Tr.rgt (Tr.lft (Tr.lft (Tr.rgt σ.slots)))))) (intOf (Tr.val .undef (Tr.rgt (Tr.lft (Tr.rgt (Tr.lft σ.slots)))))) (intOf (nth (Tr.val [] (Tr.rgt (Tr.lft σ.boxes))) 0)) (intOf (nth (Tr.val [] (Tr.rgt (Tr.lft σ.boxes))) 1)) (intOf (nth (Tr.val [] (Tr.rgt (Tr.lft σ.boxes))) 2)) (stringOf (nth (Tr.val [] (Tr.rgt (Tr.lft σ.boxes))) 3)) (boolOf (nth (Tr.val [] (Tr.rgt (Tr.lft σ.boxes))) 4)) (stringOf (nth (Tr.val [] (Tr.rgt (Tr.lft σ.boxes))) 5)) (stringOf (nth (Tr.val [] (Tr.rgt (Tr.lft σ.boxes))) 6)) (listOf (.pair .str (.list (.pair .str (.int .i64)))) (nth (Tr.val [] (Tr.rgt (Tr.lft (Tr.rgt (Tr.rgt (Tr.lft σ.boxes)))))) 0)) K).symm.trans (congrArg (fun s => (ev Try.prog cfg k).loop 34 1 κ [true, true, true, true, false, true, false] s K) (e.symm.trans (okSt_eq hs).symm))
    · rfl
  · rfl
theorem L34v1_0_k (gF40v1 : tF40v1) (gL34v1_0 : tL34v1_0) (cf : CallF) (lf : LoopF) (κ : Res → Option Res) (p0 : Int) (p1 : (List ByteArray)) (p2 : Int) (p3 : Int) (p4 : Int) (p5 : Int) (p6 : Int) (p7 : ByteArray) (p8 : Bool) (p9 : ByteArray) (p10 : ByteArray) (p11 : T5) (K : Cont) : evLp Try.prog cfg (F40v1_m gF40v1 cf) (L34v1_0_m gL34v1_0 lf) 34 1 κ [true, true, true, true, false, true, false] ⟨53, Tr.of (nthD .undef [.ref 53 0, .undef, .undef, .undef, .undef, .ref 5 0, .undef, .undef, .undef, .int .i64 p0, .undef, .undef, .undef, .undef, .undef, .undef, .undef, .undef, .undef, .undef, .undef, .undef, .undef, .list .str p1 .no, .int .i64 p2, .int .i64 p3]) 6, Tr.of (nthD [] [[], [], [], [], [], [.int .i64 p4, .int .i64 p5, .int .i64 p6, .str p7, .bool p8, .str p9, .str p10], [], [], [], [], [], [], [], [], [], [], [], [], [], [], [], [], [], [], [], [], [], [], [], [], [], [], [], [], [], [], [], [], [], [], [], [], [], [], [], [], [], [], [], [], [], [], [], [.list (.pair .str (.list (.pair .str (.int .i64)))) p11 (.own false false)]]) 6⟩ K = L34v1_0_B gF40v1 gL34v1_0 (fun x => κ ((.tup [.int .i64 x.1, .int .i64 x.2.1], [[.list (.pair .str (.list (.pair .str (.int .i64)))) x.2.2 (.own false false)]]) : Res)) p0 p1 p2 p3 p4 p5 p6 p7 p8 p9 p10 p11 (fun v => K (.exit 0) ⟨53, Tr.of (nthD .undef [.ref 53 0, .undef, .undef, .undef, .undef, .ref 5 0, .undef, .undef, .undef, .int .i64 v.1, .undef, .undef, .undef, .undef, .undef, .undef, .undef, .undef, .undef, .undef, .undef, .undef, .undef, .list .str p1 .no, .int .i64 p2, .int .i64 v.2.1]) 6, Tr.of (nthD [] [[], [], [], [], [], [.int .i64 p4, .int .i64 p5, .int .i64 p6, .str p7, .bool p8, .str p9, .str p10], [], [], [], [], [], [], [], [], [], [], [], [], [], [], [], [], [], [], [], [], [], [], [], [], [], [], [], [], [], [], [], [], [], [], [], [], [], [], [], [], [], [], [], [], [], [], [], [.list (.pair .str (.list (.pair .str (.int .i64)))) v.2.2 (.own false false)]]) 6⟩) := by
  kernel_rfl
theorem L34v1_0_ev : ∀ (k : Nat) (κ : Res → Option Res) (p0 : Int) (p1 : (List ByteArray)) (p2 : Int) (p3 : Int) (p4 : Int) (p5 : Int) (p6 : Int) (p7 : ByteArray) (p8 : Bool) (p9 : ByteArray) (p10 : ByteArray) (p11 : T5) (K : Cont), (ev Try.prog cfg k).loop 34 1 κ [true, true, true, true, false, true, false] ⟨53, Tr.of (nthD .undef [.ref 53 0, .undef, .undef, .undef, .undef, .ref 5 0, .undef, .undef, .undef, .int .i64 p0, .undef, .undef, .undef, .undef, .undef, .undef, .undef, .undef, .undef, .undef, .undef, .undef, .undef, .list .str p1 .no, .int .i64 p2, .int .i64 p3]) 6, Tr.of (nthD [] [[], [], [], [], [], [.int .i64 p4, .int .i64 p5, .int .i64 p6, .str p7, .bool p8, .str p9, .str p10], [], [], [], [], [], [], [], [], [], [], [], [], [], [], [], [], [], [], [], [], [], [], [], [], [], [], [], [], [], [], [], [], [], [], [], [], [], [], [], [], [], [], [], [], [], [], [], [.list (.pair .str (.list (.pair .str (.int .i64)))) p11 (.own false false)]]) 6⟩ K = L34v1_0 k (fun x => κ ((.tup [.int .i64 x.1, .int .i64 x.2.1], [[.list (.pair .str (.list (.pair .str (.int .i64)))) x.2.2 (.own false false)]]) : Res)) p0 p1 p2 p3 p4 p5 p6 p7 p8 p9 p10 p11 (fun v => K (.exit 0) ⟨53, Tr.of (nthD .undef [.ref 53 0, .undef, .undef, .undef, .undef, .ref 5 0, .undef, .undef, .undef, .int .i64 v.1, .undef, .undef, .undef, .undef, .undef, .undef, .undef, .undef, .undef, .undef, .undef, .undef, .undef, .list .str p1 .no, .int .i64 p2, .int .i64 v.2.1]) 6, Tr.of (nthD [] [[], [], [], [], [], [.int .i64 p4, .int .i64 p5, .int .i64 p6, .str p7, .bool p8, .str p9, .str p10], [], [], [], [], [], [], [], [], [], [], [], [], [], [], [], [], [], [], [], [], [], [], [], [], [], [], [], [], [], [], [], [], [], [], [], [], [], [], [], [], [], [], [], [], [], [], [], [.list (.pair .str (.list (.pair .str (.int .i64)))) v.2.2 (.own false false)]]) 6⟩) := by
  intro k κ
  induction k with
  | zero => intro p0 p1 p2 p3 p4 p5 p6 p7 p8 p9 p10 p11 K; rfl
  | succ k ih =>
    intro p0 p1 p2 p3 p4 p5 p6 p7 p8 p9 p10 p11 K
    rw [ev_loop, ← F40v1_d k (F40v1_ev k), ← L34v1_0_d k κ ih]
    exact L34v1_0_k _ _ _ _ κ p0 p1 p2 p3 p4 p5 p6 p7 p8 p9 p10 p11 K
def F34v1_B (gF38 : tF38) (gF40v1 : tF40v1) (gL34v1_0 : tL34v1_0) (a1 : T3) (a2 : T7) (b0_0 : T5) (κ : Int × Int × T5 → Option Res) : Option Res :=
  chk3 (gF38 a1 a2.1 a2.2.1.1 a2.2.1.2.1 a2.2.1.2.2.1 a2.2.1.2.2.2 a2.2.2.1 a2.2.2.2 fun x1 =>
   chk2 (if decide (x1.1 < (0 : Int)) = true then
     (κ ((0 : Int), ((3 : Int), b0_0)))
    else
     (if (true && (decide ((0 : Int) ≤ x1.1) && decide (x1.1 < (a1.length : Int)))) = true then
      (chk1 (gL34v1_0 (0 : Int) ((a1.getD x1.1.toNat ((⟨#[]⟩ : ByteArray), ([] : List ByteArray))).2) (((a1.getD x1.1.toNat ((⟨#[]⟩ : ByteArray), ([] : List ByteArray))).2).length : Int) (0 : Int) x1.2.1 x1.2.2.1 x1.2.2.2.1 x1.2.2.2.2.1 x1.2.2.2.2.2.1 x1.2.2.2.2.2.2.1 x1.2.2.2.2.2.2.2 b0_0 fun v3 =>
       chk1 (if (v3.1 == (0 : Int)) = true then
         (κ ((0 : Int), ((10 : Int), v3.2.2)))
        else
         (κ (v3.1, ((0 : Int), v3.2.2))))))
     else
      (none))))
/-- lamplighter/typing.field -/
def F34v1 : Nat → T3 → T7 → T5 → (Int × Int × T5 → Option Res) → Option Res
  | 0, _, _, _, _ => none
  | k + 1, a1, a2, b0_0, κ => F34v1_B (F38 k) (F40v1 k) (L34v1_0 k κ) a1 a2 b0_0 κ
def F34v1_s : List SC := [.one (.ref 0 0), .one (.list (.pair .str (.list .str)) .no), .agg [.int .i64, .int .i64, .int .i64, .str, .bool, .str, .str]]
def F34v1_b : List (List SC) := [[.one (.list (.pair .str (.list (.pair .str (.int .i64)))) (.own false false))]]
def F34v1_m (g : T3 → T7 → T5 → (Int × Int × T5 → Option Res) → Option Res) (cf : CallF) : CallF := fun f args lent κ => match Nat.beq f 34 with
  | true => match okC F34v1_s args && okB F34v1_b lent with
    | true => g (listOf (.pair .str (.list .str)) (nth args 1)) ((intOf (nth (aggOf (nth args 2)) 0)), (((intOf (nth (aggOf (nth args 2)) 1)), ((intOf (nth (aggOf (nth args 2)) 2)), ((stringOf (nth (aggOf (nth args 2)) 3)), (boolOf (nth (aggOf (nth args 2)) 4))))), ((stringOf (nth (aggOf (nth args 2)) 5)), (stringOf (nth (aggOf (nth args 2)) 6))))) (listOf (.pair .str (.list (.pair .str (.int .i64)))) (nth (nthB lent 0) 0)) (fun x => κ ((.tup [.int .i64 x.1, .int .i64 x.2.1], [[.list (.pair .str (.list (.pair .str (.int .i64)))) x.2.2 (.own false false)]]) : Res))
    | false => cf f args lent κ
  | false => cf f args lent κ
theorem F34v1_d (k : Nat) (h : ∀ (a1 : T3) (a2 : T7) (b0_0 : T5) (κ : Res → Option Res), (ev Try.prog cfg k).call 34 [.ref 0 0, .list (.pair .str (.list .str)) a1 .no, .agg [.int .i64 a2.1, .int .i64 a2.2.1.1, .int .i64 a2.2.1.2.1, .str a2.2.1.2.2.1, .bool a2.2.1.2.2.2, .str a2.2.2.1, .str a2.2.2.2]] [[.list (.pair .str (.list (.pair .str (.int .i64)))) b0_0 (.own false false)]] κ = F34v1 k a1 a2 b0_0 (fun x => κ ((.tup [.int .i64 x.1, .int .i64 x.2.1], [[.list (.pair .str (.list (.pair .str (.int .i64)))) x.2.2 (.own false false)]]) : Res))) : F34v1_m (F34v1 k) (ev Try.prog cfg k).call = (ev Try.prog cfg k).call := by
  funext f args lent κ
  unfold F34v1_m
  split
  · rename_i hp
    split
    · rename_i hs
      rw [Bool.and_eq_true] at hs
      have e : mkC F34v1_s 0 args = [.ref 0 0, .list (.pair .str (.list .str)) (listOf (.pair .str (.list .str)) (nth args 1)) .no, .agg [.int .i64 (intOf (nth (aggOf (nth args 2)) 0)), .int .i64 (intOf (nth (aggOf (nth args 2)) 1)), .int .i64 (intOf (nth (aggOf (nth args 2)) 2)), .str (stringOf (nth (aggOf (nth args 2)) 3)), .bool (boolOf (nth (aggOf (nth args 2)) 4)), .str (stringOf (nth (aggOf (nth args 2)) 5)), .str (stringOf (nth (aggOf (nth args 2)) 6))]] := by kernel_rfl
      have e' : mkB F34v1_b 0 lent = [[.list (.pair .str (.list (.pair .str (.int .i64)))) (listOf (.pair .str (.list (.pair .str (.int .i64)))) (nth (nthB lent 0) 0)) (.own false false)]] := by kernel_rfl
      obtain rfl := Nat.eq_of_beq_eq_true hp
      exact (h (listOf (.pair .str (.list .str)) (nth args 1)) ((intOf (nth (aggOf (nth args 2)) 0)), (((intOf (nth (aggOf (nth args 2)) 1)), ((intOf (nth (aggOf (nth args 2)) 2)), ((stringOf (nth (aggOf (nth args 2)) 3)), (boolOf (nth (aggOf (nth args 2)) 4))))), ((stringOf (nth (aggOf (nth args 2)) 5)), (stringOf (nth (aggOf (nth args 2)) 6))))) (listOf (.pair .str (.list (.pair .str (.int .i64)))) (nth (nthB lent 0) 0)) κ).symm.trans (cong2 (fun a l => (ev Try.prog cfg k).call 34 a l κ) (e.symm.trans (okC_eq hs.1).symm) (e'.symm.trans (okB_eq hs.2).symm))
    · rfl
  · rfl
theorem F34v1_k (gF38 : tF38) (gF40v1 : tF40v1) (gL34v1_0 : tL34v1_0) (cf : CallF) (lf : LoopF) (a1 : T3) (a2 : T7) (b0_0 : T5) (κ : Res → Option Res) : evFn Try.prog cfg (F38_m gF38 (F40v1_m gF40v1 cf)) (L34v1_0_m gL34v1_0 lf) 34 [.ref 0 0, .list (.pair .str (.list .str)) a1 .no, .agg [.int .i64 a2.1, .int .i64 a2.2.1.1, .int .i64 a2.2.1.2.1, .str a2.2.1.2.2.1, .bool a2.2.1.2.2.2, .str a2.2.2.1, .str a2.2.2.2]] [[.list (.pair .str (.list (.pair .str (.int .i64)))) b0_0 (.own false false)]] κ = F34v1_B gF38 gF40v1 gL34v1_0 a1 a2 b0_0 (fun x => κ ((.tup [.int .i64 x.1, .int .i64 x.2.1], [[.list (.pair .str (.list (.pair .str (.int .i64)))) x.2.2 (.own false false)]]) : Res)) := by
  kernel_rfl
theorem F34v1_ev : ∀ (k : Nat) (a1 : T3) (a2 : T7) (b0_0 : T5) (κ : Res → Option Res), (ev Try.prog cfg k).call 34 [.ref 0 0, .list (.pair .str (.list .str)) a1 .no, .agg [.int .i64 a2.1, .int .i64 a2.2.1.1, .int .i64 a2.2.1.2.1, .str a2.2.1.2.2.1, .bool a2.2.1.2.2.2, .str a2.2.2.1, .str a2.2.2.2]] [[.list (.pair .str (.list (.pair .str (.int .i64)))) b0_0 (.own false false)]] κ = F34v1 k a1 a2 b0_0 (fun x => κ ((.tup [.int .i64 x.1, .int .i64 x.2.1], [[.list (.pair .str (.list (.pair .str (.int .i64)))) x.2.2 (.own false false)]]) : Res)) := by
  intro k
  induction k with
  | zero => intros; rfl
  | succ k ih =>
    intro a1 a2 b0_0 κ
    refine (ev_call' Try.prog cfg k 34 1 _ _ κ (by rfl)).trans ?_
    rw [← F38_d k (F38_ev k), ← F40v1_d k (F40v1_ev k), ← L34v1_0_d k κ (L34v1_0_ev k κ)]
    exact F34v1_k _ _ _ _ _ a1 a2 b0_0 κ
def L24v1_0_B (gF33 : tF33) (gF34v1 : tF34v1) (gF35 : tF35) (gL24v1_0 : tL24v1_0) (κ : Int × Int × T5 → Option Res) (p0 : T3) (p1 : (List Int)) (p2 : T8) (p3 : Int) (p4 : Int) (p5 : T5) (K : (List Int) × Int × T5 → Option Res) : Option Res :=
  chk1 (if decide (p4 < p3) = true then
    (if (true && (decide ((0 : Int) ≤ p4) && decide (p4 < (p2.length : Int)))) = true then
     (chk5 (gF33 ((p2.getD p4.toNat ((0 : Int), (((0 : Int), ((0 : Int), ((⟨#[]⟩ : ByteArray), false))), ((⟨#[]⟩ : ByteArray), (⟨#[]⟩ : ByteArray))))).1) fun x2 =>
      chk3 (if (((p2.getD p4.toNat ((0 : Int), (((0 : Int), ((0 : Int), ((⟨#[]⟩ : ByteArray), false))), ((⟨#[]⟩ : ByteArray), (⟨#[]⟩ : ByteArray))))).1) == (1 : Int)) = true then
        (chk1 (if (((((p2.getD p4.toNat ((0 : Int), (((0 : Int), ((0 : Int), ((⟨#[]⟩ : ByteArray), false))), ((⟨#[]⟩ : ByteArray), (⟨#[]⟩ : ByteArray))))).2).1).1) == (0 : Int)) = true then
          (κ ((0 : Int), ((10 : Int), p5)))
         else
          (if (true && (decide ((0 : Int) ≤ (IntKind.wrap .i64 ((p1.length : Int) - x2))) && (decide ((IntKind.wrap .i64 ((p1.length : Int) - x2)) ≤ (p1.length : Int)) && decide ((IntKind.wrap .i64 ((p1.length : Int) - x2)) = (IntKind.wrap .i64 ((p1.length : Int) - x2)))))) = true then chk3 (if decide ((((p1.take (IntKind.wrap .i64 ((p1.length : Int) - x2)).toNat).drop (0 : Int).toNat).length + ([(((p2.getD p4.toNat ((0 : Int), (((0 : Int), ((0 : Int), ((⟨#[]⟩ : ByteArray), false))), ((⟨#[]⟩ : ByteArray), (⟨#[]⟩ : ByteArray))))).2).1).1] : List Int).length) * 8 ≤ 140737488355328) = true then chk1 (gL24v1_0 p0 (((p1.take (IntKind.wrap .i64 ((p1.length : Int) - x2)).toNat).drop (0 : Int).toNat) ++ ([(((p2.getD p4.toNat ((0 : Int), (((0 : Int), ((0 : Int), ((⟨#[]⟩ : ByteArray), false))), ((⟨#[]⟩ : ByteArray), (⟨#[]⟩ : ByteArray))))).2).1).1] : List Int)) p2 p3 (IntKind.wrap .i64 (p4 + (1 : Int))) p5 K) else none) else none)))
       else
        (chk1 (if (((p2.getD p4.toNat ((0 : Int), (((0 : Int), ((0 : Int), ((⟨#[]⟩ : ByteArray), false))), ((⟨#[]⟩ : ByteArray), (⟨#[]⟩ : ByteArray))))).1) == (2 : Int)) = true then
          (chk1 (gF34v1 p0 ((p2.getD p4.toNat ((0 : Int), (((0 : Int), ((0 : Int), ((⟨#[]⟩ : ByteArray), false))), ((⟨#[]⟩ : ByteArray), (⟨#[]⟩ : ByteArray))))).1, (((((p2.getD p4.toNat ((0 : Int), (((0 : Int), ((0 : Int), ((⟨#[]⟩ : ByteArray), false))), ((⟨#[]⟩ : ByteArray), (⟨#[]⟩ : ByteArray))))).2).1).1, (((((p2.getD p4.toNat ((0 : Int), (((0 : Int), ((0 : Int), ((⟨#[]⟩ : ByteArray), false))), ((⟨#[]⟩ : ByteArray), (⟨#[]⟩ : ByteArray))))).2).1).2).1, (((((p2.getD p4.toNat ((0 : Int), (((0 : Int), ((0 : Int), ((⟨#[]⟩ : ByteArray), false))), ((⟨#[]⟩ : ByteArray), (⟨#[]⟩ : ByteArray))))).2).1).2).2))), (((p2.getD p4.toNat ((0 : Int), (((0 : Int), ((0 : Int), ((⟨#[]⟩ : ByteArray), false))), ((⟨#[]⟩ : ByteArray), (⟨#[]⟩ : ByteArray))))).2).2))) p5 fun x3 =>
           chk2 (if (x3.2.1 != (0 : Int)) = true then
             (κ ((0 : Int), (x3.2.1, x3.2.2)))
            else
             (chk1 (if (x3.1 == (0 : Int)) = true then
               (κ ((0 : Int), ((10 : Int), x3.2.2)))
              else
               (if (true && (decide ((0 : Int) ≤ (IntKind.wrap .i64 ((p1.length : Int) - x2))) && (decide ((IntKind.wrap .i64 ((p1.length : Int) - x2)) ≤ (p1.length : Int)) && decide ((IntKind.wrap .i64 ((p1.length : Int) - x2)) = (IntKind.wrap .i64 ((p1.length : Int) - x2)))))) = true then chk3 (if decide ((((p1.take (IntKind.wrap .i64 ((p1.length : Int) - x2)).toNat).drop (0 : Int).toNat).length + ([x3.1] : List Int).length) * 8 ≤ 140737488355328) = true then chk1 (gL24v1_0 p0 (((p1.take (IntKind.wrap .i64 ((p1.length : Int) - x2)).toNat).drop (0 : Int).toNat) ++ ([x3.1] : List Int)) p2 p3 (IntKind.wrap .i64 (p4 + (1 : Int))) x3.2.2 K) else none) else none))))))
         else
          (if ((true && decide ((0 : Int) ≤ (IntKind.wrap .i64 ((p1.length : Int) - x2)))) && (decide ((IntKind.wrap .i64 ((p1.length : Int) - x2)) ≤ (p1.length : Int)) && decide ((p1.length : Int) ≤ (p1.length : Int)))) = true then
           (chk1 (gF35 ((p2.getD p4.toNat ((0 : Int), (((0 : Int), ((0 : Int), ((⟨#[]⟩ : ByteArray), false))), ((⟨#[]⟩ : ByteArray), (⟨#[]⟩ : ByteArray))))).1) ((p1.take (p1.length : Int).toNat).drop (IntKind.wrap .i64 ((p1.length : Int) - x2)).toNat) fun x4 =>
            chk2 (if (x4 == (0 : Int)) = true then
              (κ ((0 : Int), ((10 : Int), p5)))
             else
              (if (true && (decide ((0 : Int) ≤ (IntKind.wrap .i64 ((p1.length : Int) - x2))) && (decide ((IntKind.wrap .i64 ((p1.length : Int) - x2)) ≤ (p1.length : Int)) && decide ((IntKind.wrap .i64 ((p1.length : Int) - x2)) = (IntKind.wrap .i64 ((p1.length : Int) - x2)))))) = true then chk3 (if decide ((((p1.take (IntKind.wrap .i64 ((p1.length : Int) - x2)).toNat).drop (0 : Int).toNat).length + ([x4] : List Int).length) * 8 ≤ 140737488355328) = true then chk1 (gL24v1_0 p0 (((p1.take (IntKind.wrap .i64 ((p1.length : Int) - x2)).toNat).drop (0 : Int).toNat) ++ ([x4] : List Int)) p2 p3 (IntKind.wrap .i64 (p4 + (1 : Int))) p5 K) else none) else none))))
          else
           (none)))))))
    else
     (none))
   else
    (K (p1, (p4, p5))))
def L24v1_0 : Nat → (Int × Int × T5 → Option Res) → T3 → (List Int) → T8 → Int → Int → T5 → ((List Int) × Int × T5 → Option Res) → Option Res
  | 0, _, _, _, _, _, _, _, _ => none
  | k + 1, κ, p0, p1, p2, p3, p4, p5, K => L24v1_0_B (F33 k) (F34v1 k) (F35 k) (fun p0 p1 p2 p3 p4 p5 K => L24v1_0 k κ p0 p1 p2 p3 p4 p5 K) κ p0 p1 p2 p3 p4 p5 K
def L24v1_0_s : Tr SC := Tr.of (nthD (.one .undef) [.one (.ref 67 0), .one (.list (.pair .str (.list .str)) .no), .one .undef, .one .undef, .one .undef, .one .undef, .one .undef, .one .undef, .one (.list (.int .i64) (.own true false)), .one .undef, .one .undef, .one .undef, .one .undef, .one .undef, .one .undef, .one .undef, .one .undef, .one (.list (.pair (.int .i64) (.pair (.pair (.int .i64) (.pair (.int .i64) (.pair .str .bool))) (.pair .str .str))) .no), .one (.int .i64), .one (.int .i64)]) 7
def L24v1_0_b : Tr (List SC) := Tr.of (nthD [] [[], [], [], [], [], [], [], [], [], [], [], [], [], [], [], [], [], [], [], [], [], [], [], [], [], [], [], [], [], [], [], [], [], [], [], [], [], [], [], [], [], [], [], [], [], [], [], [], [], [], [], [], [], [], [], [], [], [], [], [], [], [], [], [], [], [], [], [.one (.list (.pair .str (.list (.pair .str (.int .i64)))) (.own false false))]]) 7
def L24v1_0_m (g : T3 → (List Int) → T8 → Int → Int → T5 → ((List Int) × Int × T5 → Option Res) → Option Res) (lf : LoopF) : LoopF := fun p σ K => match pathEq p [true, true, true, false, true, false] with
  | true => match okSt 67 L24v1_0_s L24v1_0_b σ with
    | true => g (listOf (.pair .str (.list .str)) (Tr.val .undef (Tr.lft σ.slots))) (listOf (.int .i64) (Tr.val .undef (Tr.lft (Tr.lft (Tr.rgt σ.slots))))) (listOf (.pair (.int .i64) (.pair (.pair (.int .i64) (.pair (.int .i64) (.pair .str .bool))) (.pair .str .str))) (Tr.val .undef (Tr.lft (Tr.lft (Tr.rgt (Tr.lft σ.slots)))))) (intOf (Tr.val .undef (Tr.lft (Tr.lft (Tr.rgt (Tr.rgt σ.slots)))))) (intOf (Tr.val .undef (Tr.lft (Tr.rgt (Tr.lft (Tr.lft σ.slots)))))) (listOf (.pair .str (.list (.pair .str (.int .i64)))) (nth (Tr.val [] (Tr.lft (Tr.lft (Tr.lft (Tr.rgt (Tr.lft (Tr.lft σ.boxes))))))) 0)) (fun v => K (.exit 0) ⟨67, Tr.of (nthD .undef [.ref 67 0, .list (.pair .str (.list .str)) (listOf (.pair .str (.list .str)) (Tr.val .undef (Tr.lft σ.slots))) .no, .undef, .undef, .undef, .undef, .undef, .undef, .list (.int .i64) v.1 (.own true false), .undef, .undef, .undef, .undef, .undef, .undef, .undef, .undef, .list (.pair (.int .i64) (.pair (.pair (.int .i64) (.pair (.int .i64) (.pair .str .bool))) (.pair .str .str))) (listOf (.pair (.int .i64) (.pair (.pair (.int .i64) (.pair (.int .i64) (.pair .str .bool))) (.pair .str .str))) (Tr.val .undef (Tr.lft (Tr.lft (Tr.rgt (Tr.lft σ.slots)))))) .no, .int .i64 (intOf (Tr.val .undef (Tr.lft (Tr.lft (Tr.rgt (Tr.rgt σ.slots)))))), .int .i64 v.2.1]) 7, Tr.of (nthD [] [[], [], [], [], [], [], [], [], [], [], [], [], [], [], [], [], [], [], [], [], [], [], [], [], [], [], [], [], [], [], [], [], [], [], [], [], [], [], [], [], [], [], [], [], [], [], [], [], [], [], [], [], [], [], [], [], [], [], [], [], [], [], [], [], [], [], [], [.list (.pair .str (.list (.pair .str (.int .i64)))) v.2.2 (.own false false)]]) 7⟩)
    | false => lf p σ K
  | false => lf p σ K
theorem L24v1_0_d (k : Nat) (κ : Res → Option Res) (h : ∀ (p0 : T3) (p1 : (List Int)) (p2 : T8) (p3 : Int) (p4 : Int) (p5 : T5) (K : Cont), (ev Try.prog cfg k).loop 24 1 κ [true, true, true, false, true, false] ⟨67, Tr.of (nthD .undef [.ref 67 0, .list (.pair .str (.list .str)) p0 .no, .undef, .undef, .undef, .undef, .undef, .undef, .list (.int .i64) p1 (.own true false), .undef, .undef, .undef, .undef, .undef, .undef, .undef, .undef, .list (.pair (.int .i64) (.pair (.pair (.int .i64) (.pair (.int .i64) (.pair .str .bool))) (.pair .str .str))) p2 .no, .int .i64 p3, .int .i64 p4]) 7, Tr.of (nthD [] [[], [], [], [], [], [], [], [], [], [], [], [], [], [], [], [], [], [], [], [], [], [], [], [], [], [], [], [], [], [], [], [], [], [], [], [], [], [], [], [], [], [], [], [], [], [], [], [], [], [], [], [], [], [], [], [], [], [], [], [], [], [], [], [], [], [], [], [.list (.pair .str (.list (.pair .str (.int .i64)))) p5 (.own false false)]]) 7⟩ K = L24v1_0 k (fun x => κ ((.tup [.int .i64 x.1, .int .i64 x.2.1], [[.list (.pair .str (.list (.pair .str (.int .i64)))) x.2.2 (.own false false)]]) : Res)) p0 p1 p2 p3 p4 p5 (fun v => K (.exit 0) ⟨67, Tr.of (nthD .undef [.ref 67 0, .list (.pair .str (.list .str)) p0 .no, .undef, .undef, .undef, .undef, .undef, .undef, .list (.int .i64) v.1 (.own true false), .undef, .undef, .undef, .undef, .undef, .undef, .undef, .undef, .list (.pair (.int .i64) (.pair (.pair (.int .i64) (.pair (.int .i64) (.pair .str .bool))) (.pair .str .str))) p2 .no, .int .i64 p3, .int .i64 v.2.1]) 7, Tr.of (nthD [] [[], [], [], [], [], [], [], [], [], [], [], [], [], [], [], [], [], [], [], [], [], [], [], [], [], [], [], [], [], [], [], [], [], [], [], [], [], [], [], [], [], [], [], [], [], [], [], [], [], [], [], [], [], [], [], [], [], [], [], [], [], [], [], [], [], [], [], [.list (.pair .str (.list (.pair .str (.int .i64)))) v.2.2 (.own false false)]]) 7⟩)) : L24v1_0_m (L24v1_0 k (fun x => κ ((.tup [.int .i64 x.1, .int .i64 x.2.1], [[.list (.pair .str (.list (.pair .str (.int .i64)))) x.2.2 (.own false false)]]) : Res))) ((ev Try.prog cfg k).loop 24 1 κ) = (ev Try.prog cfg k).loop 24 1 κ := by
  funext p σ K
  unfold L24v1_0_m
  split
  · rename_i hp
    split
    · rename_i hs
      have e : mkSt 67 L24v1_0_s L24v1_0_b σ = ⟨67, Tr.of (nthD .undef [.ref 67 0, .list (.pair .str (.list .str)) (listOf (.pair .str (.list .str)) (Tr.val .undef (Tr.lft σ.slots))) .no, .undef, .undef, .undef, .undef, .undef, .undef, .list (.int .i64) (listOf (.int .i64) (Tr.val .undef (Tr.lft (Tr.lft (Tr.rgt σ.slots))))) (.own true false), .undef, .undef, .undef, .undef, .undef, .undef, .undef, .undef, .list (.pair (.int .i64) (.pair (.pair (.int .i64) (.pair (.int .i64) (.pair .str .bool))) (.pair .str .str))) (listOf (.pair (.int .i64) (.pair (.pair (.int .i64) (.pair (.int .i64) (.pair .str .bool))) (.pair .str .str))) (Tr.val .undef (Tr.lft (Tr.lft (Tr.rgt (Tr.lft σ.slots)))))) .no, .int .i64 (intOf (Tr.val .undef (Tr.lft (Tr.lft (Tr.rgt (Tr.rgt σ.slots)))))), .int .i64 (intOf (Tr.val .undef (Tr.lft (Tr.rgt (Tr.lft (Tr.lft σ.slots))))))]) 7, Tr.of (nthD [] [[], [], [], [], [], [], [], [], [], [], [], [], [], [], [], [], [], [], [], [], [], [], [], [], [], [], [], [], [], [], [], [], [], [], [], [], [], [], [], [], [], [], [], [], [], [], [], [], [], [], [], [], [], [], [], [], [], [], [], [], [], [], [], [], [], [], [], [.list (.pair .str (.list (.pair .str (.int .i64)))) (listOf (.pair .str (.list (.pair .str (.int .i64)))) (nth (Tr.val [] (Tr.lft (Tr.lft (Tr.lft (Tr.rgt (Tr.lft (Tr.lft σ.boxes))))))) 0)) (.own false false)]]) 7⟩ := by kernel_rfl
      rw [pathEq_eq hp]
      exact (h (listOf (.pair .str (.list .str)) (Tr.val .undef (Tr.lft σ.slots))) (listOf (.int .i64) (Tr.val .undef (Tr.lft (Tr.lft (Tr.rgt σ.slots))))) (listOf (.pair (.int .i64) (.pair (.pair (.int .i64) (.pair (.int .i64) (.pair .str .bool))) (.pair .str .str))) (Tr.val .undef (Tr.lft (Tr.lft (Tr.rgt (Tr.lft σ.slots)))))) (intOf (Tr.val .undef (Tr.lft (Tr.lft (Tr.rgt (Tr.rgt σ.slots)))))) (intOf (Tr.val .undef (Tr.lft (Tr.rgt (Tr.lft (Tr.lft σ.slots)))))) (listOf (.pair .str (.list (.pair .str (.int .i64)))) (nth (Tr.val [] (Tr.lft (Tr.lft (Tr.lft (Tr.rgt (Tr.lft (Tr.lft σ.boxes))))))) 0)) K).symm.trans (congrArg (fun s => (ev Try.prog cfg k).loop 24 1 κ [true, true, true, false, true, false] s K) (e.symm.trans (okSt_eq hs).symm))
    · rfl
  · rfl
theorem L24v1_0_k (gF33 : tF33) (gF34v1 : tF34v1) (gF35 : tF35) (gL24v1_0 : tL24v1_0) (cf : CallF) (lf : LoopF) (κ : Res → Option Res) (p0 : T3) (p1 : (List Int)) (p2 : T8) (p3 : Int) (p4 : Int) (p5 : T5) (K : Cont) : evLp Try.prog cfg (F33_m gF33 (F34v1_m gF34v1 (F35_m gF35 cf))) (L24v1_0_m gL24v1_0 lf) 24 1 κ [true, true, true, false, true, false] ⟨67, Tr.of (nthD .undef [.ref 67 0, .list (.pair .str (.list .str)) p0 .no, .undef, .undef, .undef, .undef, .undef, .undef, .list (.int .i64) p1 (.own true false), .undef, .undef, .undef, .undef, .undef, .undef, .undef, .undef, .list (.pair (.int .i64) (.pair (.pair (.int .i64) (.pair (.int .i64) (.pair .str .bool))) (.pair .str .str))) p2 .no, .int .i64 p3, .int .i64 p4]) 7, Tr.of (nthD [] [[], [], [], [], [], [], [], [], [], [], [], [], [], [], [], [], [], [], [], [], [], [], [], [], [], [], [], [], [], [], [], [], [], [], [], [], [], [], [], [], [], [], [], [], [], [], [], [], [], [], [], [], [], [], [], [], [], [], [], [], [], [], [], [], [], [], [], [.list (.pair .str (.list (.pair .str (.int .i64)))) p5 (.own false false)]]) 7⟩ K = L24v1_0_B gF33 gF34v1 gF35 gL24v1_0 (fun x => κ ((.tup [.int .i64 x.1, .int .i64 x.2.1], [[.list (.pair .str (.list (.pair .str (.int .i64)))) x.2.2 (.own false false)]]) : Res)) p0 p1 p2 p3 p4 p5 (fun v => K (.exit 0) ⟨67, Tr.of (nthD .undef [.ref 67 0, .list (.pair .str (.list .str)) p0 .no, .undef, .undef, .undef, .undef, .undef, .undef, .list (.int .i64) v.1 (.own true false), .undef, .undef, .undef, .undef, .undef, .undef, .undef, .undef, .list (.pair (.int .i64) (.pair (.pair (.int .i64) (.pair (.int .i64) (.pair .str .bool))) (.pair .str .str))) p2 .no, .int .i64 p3, .int .i64 v.2.1]) 7, Tr.of (nthD [] [[], [], [], [], [], [], [], [], [], [], [], [], [], [], [], [], [], [], [], [], [], [], [], [], [], [], [], [], [], [], [], [], [], [], [], [], [], [], [], [], [], [], [], [], [], [], [], [], [], [], [], [], [], [], [], [], [], [], [], [], [], [], [], [], [], [], [], [.list (.pair .str (.list (.pair .str (.int .i64)))) v.2.2 (.own false false)]]) 7⟩) := by
  kernel_rfl
theorem L24v1_0_ev : ∀ (k : Nat) (κ : Res → Option Res) (p0 : T3) (p1 : (List Int)) (p2 : T8) (p3 : Int) (p4 : Int) (p5 : T5) (K : Cont), (ev Try.prog cfg k).loop 24 1 κ [true, true, true, false, true, false] ⟨67, Tr.of (nthD .undef [.ref 67 0, .list (.pair .str (.list .str)) p0 .no, .undef, .undef, .undef, .undef, .undef, .undef, .list (.int .i64) p1 (.own true false), .undef, .undef, .undef, .undef, .undef, .undef, .undef, .undef, .list (.pair (.int .i64) (.pair (.pair (.int .i64) (.pair (.int .i64) (.pair .str .bool))) (.pair .str .str))) p2 .no, .int .i64 p3, .int .i64 p4]) 7, Tr.of (nthD [] [[], [], [], [], [], [], [], [], [], [], [], [], [], [], [], [], [], [], [], [], [], [], [], [], [], [], [], [], [], [], [], [], [], [], [], [], [], [], [], [], [], [], [], [], [], [], [], [], [], [], [], [], [], [], [], [], [], [], [], [], [], [], [], [], [], [], [], [.list (.pair .str (.list (.pair .str (.int .i64)))) p5 (.own false false)]]) 7⟩ K = L24v1_0 k (fun x => κ ((.tup [.int .i64 x.1, .int .i64 x.2.1], [[.list (.pair .str (.list (.pair .str (.int .i64)))) x.2.2 (.own false false)]]) : Res)) p0 p1 p2 p3 p4 p5 (fun v => K (.exit 0) ⟨67, Tr.of (nthD .undef [.ref 67 0, .list (.pair .str (.list .str)) p0 .no, .undef, .undef, .undef, .undef, .undef, .undef, .list (.int .i64) v.1 (.own true false), .undef, .undef, .undef, .undef, .undef, .undef, .undef, .undef, .list (.pair (.int .i64) (.pair (.pair (.int .i64) (.pair (.int .i64) (.pair .str .bool))) (.pair .str .str))) p2 .no, .int .i64 p3, .int .i64 v.2.1]) 7, Tr.of (nthD [] [[], [], [], [], [], [], [], [], [], [], [], [], [], [], [], [], [], [], [], [], [], [], [], [], [], [], [], [], [], [], [], [], [], [], [], [], [], [], [], [], [], [], [], [], [], [], [], [], [], [], [], [], [], [], [], [], [], [], [], [], [], [], [], [], [], [], [], [.list (.pair .str (.list (.pair .str (.int .i64)))) v.2.2 (.own false false)]]) 7⟩) := by
  intro k κ
  induction k with
  | zero => intro p0 p1 p2 p3 p4 p5 K; rfl
  | succ k ih =>
    intro p0 p1 p2 p3 p4 p5 K
    rw [ev_loop, ← F33_d k (F33_ev k), ← F34v1_d k (F34v1_ev k), ← F35_d k (F35_ev k), ← L24v1_0_d k κ ih]
    exact L24v1_0_k _ _ _ _ _ _ κ p0 p1 p2 p3 p4 p5 K
def F24v1_B (gF32 : tF32) (gF33 : tF33) (gF34v1 : tF34v1) (gF35 : tF35) (gL24v1_0 : tL24v1_0) (a1 : T3) (a2 : T8) (b0_0 : T5) (κ : Int × Int × T5 → Option Res) : Option Res :=
  chk1 (gF32 a2 fun x1 =>
   chk1 (if (!x1) = true then
     (κ ((0 : Int), ((1 : Int), b0_0)))
    else
     (chk1 (gL24v1_0 a1 ([] : List Int) a2 (a2.length : Int) (0 : Int) b0_0 fun v5 =>
      if (true && (true && decide ((0 : Int) < (v5.1.length : Int)))) = true then κ ((v5.1.getD (0 : Int).toNat (0 : Int)), ((0 : Int), v5.2.2)) else none))))
/-- lamplighter/typing.Kind -/
def F24v1 : Nat → T3 → T8 → T5 → (Int × Int × T5 → Option Res) → Option Res
  | 0, _, _, _, _ => none
  | k + 1, a1, a2, b0_0, κ => F24v1_B (F32 k) (F33 k) (F34v1 k) (F35 k) (L24v1_0 k κ) a1 a2 b0_0 κ
def F24v1_s : List SC := [.one (.ref 0 0), .one (.list (.pair .str (.list .str)) .no), .one (.list (.pair (.int .i64) (.pair (.pair (.int .i64) (.pair (.int .i64) (.pair .str .bool))) (.pair .str .str))) .no)]
def F24v1_b : List (List SC) := [[.one (.list (.pair .str (.list (.pair .str (.int .i64)))) (.own false false))]]
def F24v1_m (g : T3 → T8 → T5 → (Int × Int × T5 → Option Res) → Option Res) (cf : CallF) : CallF := fun f args lent κ => match Nat.beq f 24 with
  | true => match okC F24v1_s args && okB F24v1_b lent with
    | true => g (listOf (.pair .str (.list .str)) (nth args 1)) (listOf (.pair (.int .i64) (.pair (.pair (.int .i64) (.pair (.int .i64) (.pair .str .bool))) (.pair .str .str))) (nth args 2)) (listOf (.pair .str (.list (.pair .str (.int .i64)))) (nth (nthB lent 0) 0)) (fun x => κ ((.tup [.int .i64 x.1, .int .i64 x.2.1], [[.list (.pair .str (.list (.pair .str (.int .i64)))) x.2.2 (.own false false)]]) : Res))
    | false => cf f args lent κ
  | false => cf f args lent κ
theorem F24v1_d (k : Nat) (h : ∀ (a1 : T3) (a2 : T8) (b0_0 : T5) (κ : Res → Option Res), (ev Try.prog cfg k).call 24 [.ref 0 0, .list (.pair .str (.list .str)) a1 .no, .list (.pair (.int .i64) (.pair (.pair (.int .i64) (.pair (.int .i64) (.pair .str .bool))) (.pair .str .str))) a2 .no] [[.list (.pair .str (.list (.pair .str (.int .i64)))) b0_0 (.own false false)]] κ = F24v1 k a1 a2 b0_0 (fun x => κ ((.tup [.int .i64 x.1, .int .i64 x.2.1], [[.list (.pair .str (.list (.pair .str (.int .i64)))) x.2.2 (.own false false)]]) : Res))) : F24v1_m (F24v1 k) (ev Try.prog cfg k).call = (ev Try.prog cfg k).call := by
  funext f args lent κ
  unfold F24v1_m
  split
  · rename_i hp
    split
    · rename_i hs
      rw [Bool.and_eq_true] at hs
      have e : mkC F24v1_s 0 args = [.ref 0 0, .list (.pair .str (.list .str)) (listOf (.pair .str (.list .str)) (nth args 1)) .no, .list (.pair (.int .i64) (.pair (.pair (.int .i64) (.pair (.int .i64) (.pair .str .bool))) (.pair .str .str))) (listOf (.pair (.int .i64) (.pair (.pair (.int .i64) (.pair (.int .i64) (.pair .str .bool))) (.pair .str .str))) (nth args 2)) .no] := by kernel_rfl
      have e' : mkB F24v1_b 0 lent = [[.list (.pair .str (.list (.pair .str (.int .i64)))) (listOf (.pair .str (.list (.pair .str (.int .i64)))) (nth (nthB lent 0) 0)) (.own false false)]] := by kernel_rfl
      obtain rfl := Nat.eq_of_beq_eq_true hp
      exact (h (listOf (.pair .str (.list .str)) (nth args 1)) (listOf (.pair (.int .i64) (.pair (.pair (.int .i64) (.pair (.int .i64) (.pair .str .bool))) (.pair .str .str))) (nth args 2)) (listOf (.pair .str (.list (.pair .str (.int .i64)))) (nth (nthB lent 0) 0)) κ).symm.trans (cong2 (fun a l => (ev Try.prog cfg k).call 24 a l κ) (e.symm.trans (okC_eq hs.1).symm) (e'.symm.trans (okB_eq hs.2).symm))
    · rfl
  · rfl
theorem F24v1_k (gF32 : tF32) (gF33 : tF33) (gF34v1 : tF34v1) (gF35 : tF35) (gL24v1_0 : tL24v1_0) (cf : CallF) (lf : LoopF) (a1 : T3) (a2 : T8) (b0_0 : T5) (κ : Res → Option Res) : evFn Try.prog cfg (F32_m gF32 (F33_m gF33 (F34v1_m gF34v1 (F35_m gF35 cf)))) (L24v1_0_m gL24v1_0 lf) 24 [.ref 0 0, .list (.pair .str (.list .str)) a1 .no, .list (.pair (.int .i64) (.pair (.pair (.int .i64) (.pair (.int .i64) (.pair .str .bool))) (.pair .str .str))) a2 .no] [[.list (.pair .str (.list (.pair .str (.int .i64)))) b0_0 (.own false false)]] κ = F24v1_B gF32 gF33 gF34v1 gF35 gL24v1_0 a1 a2 b0_0 (fun x => κ ((.tup [.int .i64 x.1, .int .i64 x.2.1], [[.list (.pair .str (.list (.pair .str (.int .i64)))) x.2.2 (.own false false)]]) : Res)) := by
  kernel_rfl
theorem F24v1_ev : ∀ (k : Nat) (a1 : T3) (a2 : T8) (b0_0 : T5) (κ : Res → Option Res), (ev Try.prog cfg k).call 24 [.ref 0 0, .list (.pair .str (.list .str)) a1 .no, .list (.pair (.int .i64) (.pair (.pair (.int .i64) (.pair (.int .i64) (.pair .str .bool))) (.pair .str .str))) a2 .no] [[.list (.pair .str (.list (.pair .str (.int .i64)))) b0_0 (.own false false)]] κ = F24v1 k a1 a2 b0_0 (fun x => κ ((.tup [.int .i64 x.1, .int .i64 x.2.1], [[.list (.pair .str (.list (.pair .str (.int .i64)))) x.2.2 (.own false false)]]) : Res)) := by
  intro k
  induction k with
  | zero => intros; rfl
  | succ k ih =>
    intro a1 a2 b0_0 κ
    refine (ev_call' Try.prog cfg k 24 1 _ _ κ (by rfl)).trans ?_
    rw [← F32_d k (F32_ev k), ← F33_d k (F33_ev k), ← F34v1_d k (F34v1_ev k), ← F35_d k (F35_ev k), ← L24v1_0_d k κ (L24v1_0_ev k κ)]
    exact F24v1_k _ _ _ _ _ _ _ a1 a2 b0_0 κ
def L15v1_0_B (gF13 : tF13) (gF23 : tF23) (gL15v1_0 : tL15v1_0) (κ : Int × T5 → Option Res) (p0 : Int) (p1 : (List ByteArray)) (p2 : Int) (p3 : Int) (p4 : T14) (p5 : Int) (p6 : Int) (p7 : ByteArray) (p8 : (List ByteArray)) (p9 : Bool) (p10 : Int) (p11 : Int) (p12 : T8) (p13 : T5) (K : Int × T5 → Option Res) : Option Res :=
  chk1 (if decide (p3 < p2) = true then
    (if (true && (decide ((0 : Int) ≤ p3) && decide (p3 < (p1.length : Int)))) = true then
     (chk1 (gF13 (p1.getD p3.toNat (⟨#[]⟩ : ByteArray)) p13 fun x3 =>
      chk4 (if (!x3.2.1) = true then
        (κ ((10 : Int), x3.2.2))
       else
        (if (true && (decide ((0 : Int) ≤ p3) && decide (p3 ≤ (p8.length : Int)))) = true then
         (chk1 (gF23 ((p8.take p3.toNat).drop (0 : Int).toNat) (p1.getD p3.toNat (⟨#[]⟩ : ByteArray)) fun x4 =>
          chk1 (if x4 = true then
            (κ ((4 : Int), x3.2.2))
           else
            (chk1 (gL15v1_0 p0 p1 p2 (IntKind.wrap .i64 (p3 + (1 : Int))) p4 p5 p6 p7 p8 p9 p10 p11 p12 x3.2.2 K)))))
        else
         (none)))))
    else
     (none))
   else
    (K (p3, p13)))
def L15v1_0 : Nat → (Int × T5 → Option Res) → Int → (List ByteArray) → Int → Int → T14 → Int → Int → ByteArray → (List ByteArray) → Bool → Int → Int → T8 → T5 → (Int × T5 → Option Res) → Option Res
  | 0, _, _, _, _, _, _, _, _, _, _, _, _, _, _, _, _ => none
  | k + 1, κ, p0, p1, p2, p3, p4, p5, p6, p7, p8, p9, p10, p11, p12, p13, K => L15v1_0_B (F13 k) (F23 k) (fun p0 p1 p2 p3 p4 p5 p6 p7 p8 p9 p10 p11 p12 p13 K => L15v1_0 k κ p0 p1 p2 p3 p4 p5 p6 p7 p8 p9 p10 p11 p12 p13 K) κ p0 p1 p2 p3 p4 p5 p6 p7 p8 p9 p10 p11 p12 p13 K
def L15v1_0_s : Tr SC := Tr.of (nthD (.one .undef) [.one (.ref 109 0), .one .undef, .one (.int .i64), .one .undef, .one (.ref 4 0), .one .undef, .one .undef, .one (.ref 7 0), .one .undef, .one .undef, .one .undef, .one .undef, .one .undef, .one .undef, .one .undef, .one .undef, .one .undef, .one .undef, .one .undef, .one .undef, .one .undef, .one .undef, .one .undef, .one .undef, .one .undef, .one .undef, .one .undef, .one .undef, .one .undef, .one .undef, .one .undef, .one .undef, .one .undef, .one .undef, .one .undef, .one .undef, .one .undef, .one .undef, .one .undef, .one .undef, .one .undef, .one .undef, .one (.list .str .no), .one (.int .i64), .one (.int .i64)]) 7
def L15v1_0_b : Tr (List SC) := Tr.of (nthD [] [[], [], [], [], [.one (.list (.pair .str (.pair (.list .str) (.pair .bool (.pair (.int .i64) (.pair (.int .i64) (.list (.pair (.int .i64) (.pair (.pair (.int .i64) (.pair (.int .i64) (.pair .str .bool))) (.pair .str .str))))))))) .no), .one (.int .i64), .one (.int .i64)], [], [], [.one .str, .one (.list .str .no), .one .bool, .one (.int .i64), .one (.int .i64), .one (.list (.pair (.int .i64) (.pair (.pair (.int .i64) (.pair (.int .i64) (.pair .str .bool))) (.pair .str .str))) .no)], [], [], [], [], [], [], [], [], [], [], [], [], [], [], [], [], [], [], [], [], [], [], [], [], [], [], [], [], [], [], [], [], [], [], [], [], [], [], [], [], [], [], [], [], [], [], [], [], [], [], [], [], [], [], [], [], [], [], [], [], [], [], [], [], [], [], [], [], [], [], [], [], [], [], [], [], [], [], [], [], [], [], [], [], [], [], [], [], [], [], [], [], [], [], [], [], [], [], [], [], [], [.one (.list (.pair .str (.list (.pair .str (.int .i64)))) (.own false false))]]) 7
def L15v1_0_m (g : Int → (List ByteArray) → Int → Int → T14 → Int → Int → ByteArray → (List ByteArray) → Bool → Int → Int → T8 → T5 → (Int × T5 → Option Res) → Option Res) (lf : LoopF) : LoopF := fun p σ K => match pathEq p [true, true, true, true, false, true, false] with
  | true => match okSt 109 L15v1_0_s L15v1_0_b σ with
    | true => g (intOf (Tr.val .undef (Tr.rgt σ.slots))) (listOf .str (Tr.val .undef (Tr.lft (Tr.rgt (Tr.lft (Tr.rgt (Tr.rgt σ.slots))))))) (intOf (Tr.val .undef (Tr.lft (Tr.rgt (Tr.rgt (Tr.lft (Tr.lft σ.slots))))))) (intOf (Tr.val .undef (Tr.lft (Tr.rgt (Tr.rgt (Tr.lft (Tr.rgt σ.slots))))))) (listOf (.pair .str (.pair (.list .str) (.pair .bool (.pair (.int .i64) (.pair (.int .i64) (.list (.pair (.int .i64) (.pair (.pair (.int .i64) (.pair (.int .i64) (.pair .str .bool))) (.pair .str .str))))))))) (nth (Tr.val [] (Tr.lft (Tr.rgt σ.boxes))) 0)) (intOf (nth (Tr.val [] (Tr.lft (Tr.rgt σ.boxes))) 1)) (intOf (nth (Tr.val [] (Tr.lft (Tr.rgt σ.boxes))) 2)) (stringOf (nth (Tr.val [] (Tr.lft (Tr.lft (Tr.lft σ.boxes)))) 0)) (listOf .str (nth (Tr.val [] (Tr.lft (Tr.lft (Tr.lft σ.boxes)))) 1)) (boolOf (nth (Tr.val [] (Tr.lft (Tr.lft (Tr.lft σ.boxes)))) 2)) (intOf (nth (Tr.val [] (Tr.lft (Tr.lft (Tr.lft σ.boxes)))) 3)) (intOf (nth (Tr.val [] (Tr.lft (Tr.lft (Tr.lft σ.boxes)))) 4)) (listOf (.pair (.int .i64) (.pair (.pair (.int .i64) (.pair (.int .i64) (.pair .str .bool))) (.pair .str .str))) (nth (Tr.val [] (Tr.lft (Tr.lft (Tr.lft σ.boxes)))) 5)) (listOf (.pair .str (.list (.pair .str (.int .i64)))) (nth (Tr.val [] (Tr.rgt (Tr.lft (Tr.rgt (Tr.rgt (Tr.rgt (Tr.lft σ.boxes))))))) 0)) (fun v => K (.exit 0) ⟨109, Tr.of (nthD .undef [.ref 109 0, .undef, .int .i64 (intOf (Tr.val .undef (Tr.rgt σ.slots))), .undef, .ref 4 0, .undef, .undef, .ref 7 0, .undef, .undef, .undef, .undef, .undef, .undef, .undef, .undef, .undef, .undef, .undef, .undef, .undef, .undef, .undef, .undef, .undef, .undef, .undef, .undef, .undef, .undef, .undef, .undef, .undef, .undef, .undef, .undef, .undef, .undef, .undef, .undef, .undef, .undef, .list .str (listOf .str (Tr.val .undef (Tr.lft (Tr.rgt (Tr.lft (Tr.rgt (Tr.rgt σ.slots))))))) .no, .int .i64 (intOf (Tr.val .undef (Tr.lft (Tr.rgt (Tr.rgt (Tr.lft (Tr.lft σ.slots))))))), .int .i64 v.1]) 7, Tr.of (nthD [] [[], [], [], [], [.list (.pair .str (.pair (.list .str) (.pair .bool (.pair (.int .i64) (.pair (.int .i64) (.list (.pair (.int .i64) (.pair (.pair (.int .i64) (.pair (.int .i64) (.pair .str .bool))) (.pair .str .str))))))))) (listOf (.pair .str (.pair (.list .str) (.pair .bool (.pair (.int .i64) (.pair (.int .i64) (.list (.pair (.int .i64) (.pair (.pair (.int .i64) (.pair (.int .i64) (.pair .str .bool))) (.pair .str .str))))))))) (nth (Tr.val [] (Tr.lft (Tr.rgt σ.boxes))) 0)) .no, .int .i64 (intOf (nth (Tr.val [] (Tr.lft (Tr.rgt σ.boxes))) 1)), .int .i64 (intOf (nth (Tr.val [] (Tr.lft (Tr.rgt σ.boxes))) 2))], [], [], [.str (stringOf (nth (Tr.val [] (Tr.lft (Tr.lft (Tr.lft σ.boxes)))) 0)), .list .str (listOf .str (nth (Tr.val [] (Tr.lft (Tr.lft (Tr.lft σ.boxes)))) 1)) .no, .bool (boolOf (nth (Tr.val [] (Tr.lft (Tr.lft (Tr.lft σ.boxes)))) 2)), .int .i64 (intOf (nth (Tr.val [] (Tr.lft (Tr.lft (Tr.lft σ.boxes)))) 3)), .int .i64 (intOf (nth (Tr.val [] (Tr.lft (Tr.lft (Tr.lft σ.boxes)))) 4)), .list (.pair (.int .i64) (.pair (.pair (.int .i64) (.pair (.int .i64) (.pair .str .bool))) (.pair .str .str))) (listOf (.pair (.int .i64) (.pair (.pair (.int .i64) (.pair (.int .i64) (.pair .str .bool))) (.pair .str .str))) (nth (Tr.val [] (Tr.lft (Tr.lft (Tr.lft σ.boxes)))) 5)) .no], [], [], [], [], [], [], [], [], [], [], [], [], [], [], [], [], [], [], [], [], [], [], [], [], [], [], [], [], [], [], [], [], [], [], [], [], [], [], [], [], [], [], [], [], [], [], [], [], [], [], [], [], [], [], [], [], [], [], [], [], [], [], [], [], [], [], [], [], [], [], [], [], [], [], [], [], [], [], [], [], [], [], [], [], [], [], [], [], [], [], [], [], [], [], [], [], [], [], [], [], [], [.list (.pair .str (.list (.pair .str (.int .i64)))) v.2 (.own false false)]]) 7⟩)
    | false => lf p σ K
  | false => lf p σ K
theorem L15v1_0_d (k : Nat) (κ : Res → Option Res) (h : ∀ (p0 : Int) (p1 : (List ByteArray)) (p2 : Int) (p3 : Int) (p4 : T14) (p5 : Int) (p6 : Int) (p7 : ByteArray) (p8 : (List ByteArray)) (p9 : Bool) (p10 : Int) (p11 : Int) (p12 : T8) (p13 : T5) (K : Cont), (ev Try.prog cfg k).loop 15 1 κ [true, true, true, true, false, true, false] ⟨109, Tr.of (nthD .undef [.ref 109 0, .undef, .int .i64 p0, .undef, .ref 4 0, .undef, .undef, .ref 7 0, .undef, .undef, .undef, .undef, .undef, .undef, .undef, .undef, .undef, .undef, .undef, .undef, .undef, .undef, .undef, .undef, .undef, .undef, .undef, .undef, .undef, .undef, .undef, .undef, .undef, .undef, .undef, .undef, .undef, .undef, .undef, .undef, .undef, .undef, .list .str p1 .no, .int .i64 p2, .int .i64 p3]) 7, Tr.of (nthD [] [[], [], [], [], [.list (.pair .str (.pair (.list .str) (.pair .bool (.pair (.int .i64) (.pair (.int .i64) (.list (.pair (.int .i64) (.pair (.pair (.int .i64) (.pair (.int .i64) (.pair .str .bool))) (.pair .str .str))))))))) p4 .no, .int .i64 p5, .int .i64 p6], [], [], [.str p7, .list .str p8 .no, .bool p9, .int .i64 p10, .int .i64 p11, .list (.pair (.int .i64) (.pair (.pair (.int .i64) (.pair (.int .i64) (.pair .str .bool))) (.pair .str .str))) p12 .no], [], [], [], [], [], [], [], [], [], [], [], [], [], [], [], [], [], [], [], [], [], [], [], [], [], [], [], [], [], [], [], [], [], [], [], [], [], [], [], [], [], [], [], [], [], [], [], [], [], [], [], [], [], [], [], [], [], [], [], [], [], [], [], [], [], [], [], [], [], [], [], [], [], [], [], [], [], [], [], [], [], [], [], [], [], [], [], [], [], [], [], [], [], [], [], [], [], [], [], [], [], [.list (.pair .str (.list (.pair .str (.int .i64)))) p13 (.own false false)]]) 7⟩ K = L15v1_0 k (fun x => κ ((.int .i64 x.1, [[.list (.pair .str (.list (.pair .str (.int .i64)))) x.2 (.own false false)]]) : Res)) p0 p1 p2 p3 p4 p5 p6 p7 p8 p9 p10 p11 p12 p13 (fun v => K (.exit 0) ⟨109, Tr.of (nthD .undef [.ref 109 0, .undef, .int .i64 p0, .undef, .ref 4 0, .undef, .undef, .ref 7 0, .undef, .undef, .undef, .undef, .undef, .undef, .undef, .undef, .undef, .undef, .undef, .undef, .undef, .undef, .undef, .undef, .undef, .undef, .undef, .undef, .undef, .undef, .undef, .undef, .undef, .undef, .undef, .undef, .undef, .undef, .undef, .undef, .undef, .undef, .list .str p1 .no, .int .i64 p2, .int .i64 v.1]) 7, Tr.of (nthD [] [[], [], [], [], [.list (.pair .str (.pair (.list .str) (.pair .bool (.pair (.int .i64) (.pair (.int .i64) (.list (.pair (.int .i64) (.pair (.pair (.int .i64) (.pair (.int .i64) (.pair .str .bool))) (.pair .str .str))))))))) p4 .no, .int .i64 p5, .int .i64 p6], [], [], [.str p7, .list .str p8 .no, .bool p9, .int .i64 p10, .int .i64 p11, .list (.pair (.int .i64) (.pair (.pair (.int .i64) (.pair (.int .i64) (.pair .str .bool))) (.pair .str .str))) p12 .no], [], [], [], [], [], [], [], [], [], [], [], [], [], [], [], [], [], [], [], [], [], [], [], [], [], [], [], [], [], [], [], [], [], [], [], [], [], [], [], [], [], [], [], [], [], [], [], [], [], [], [], [], [], [], [], [], [], [], [], [], [], [], [], [], [], [], [], [], [], [], [], [], [], [], [], [], [], [], [], [], [], [], [], [], [], [], [], [], [], [], [], [], [], [], [], [], [], [], [], [], [], [.list (.pair .str (.list (.pair .str (.int .i64)))) v.2 (.own false false)]]) 7⟩)) : L15v1_0_m (L15v1_0 k (fun x => κ ((.int .i64 x.1, [[.list (.pair .str (.list (.pair .str (.int .i64)))) x.2 (.own false false)]]) : Res))) ((ev Try.prog cfg k).loop 15 1 κ) = (ev Try.prog cfg k).loop 15 1 κ := by
  funext p σ K
  unfold L15v1_0_m
  split
  · rename_i hp
    split
    · rename_i hs
      have e : mkSt 109 L15v1_0_s L15v1_0_b σ = ⟨109, Tr.of (nthD .undef [.ref 109 0, .undef, .int .i64 (intOf (Tr.val .undef (Tr.rgt σ.slots))), .undef, .ref 4 0, .undef, .undef, .ref 7 0, .undef, .undef, .undef, .undef, .undef, .undef, .undef, .undef, .undef, .undef, .undef, .undef, .undef, .undef, .undef, .undef, .undef, .undef, .undef, .undef, .undef, .undef, .undef, .undef, .undef, .undef, .undef, .undef, .undef, .undef, .undef, .undef, .undef, .undef, .list .str (listOf .str (Tr.val .undef (Tr.lft (Tr.rgt (Tr.lft (Tr.rgt (Tr.rgt σ.slots))))))) .no, .int .i64 (intOf (Tr.val .undef (Tr.lft (Tr.rgt (Tr.rgt (Tr.lft (Tr.lft σ.slots))))))), .int .i64 (intOf (Tr.val .undef (Tr.lft (Tr.rgt (Tr.rgt (Tr.lft (Tr.rgt σ.slots)))))))]) 7, Tr.of (nthD [] [[], [], [], [], [.list (.pair .str (.pair (.list .str) (.pair .bool (.pair (.int .i64) (.pair (.int .i64) (.list (.pair (.int .i64) (.pair (.pair (.int .i64) (.pair (.int .i64) (.pair .str .bool))) (.pair .str .str))))))))) (listOf (.pair .str (.pair (.list .str) (.pair .bool (.pair (.int .i64) (.pair (.int .i64) (.list (.pair (.int .i64) (.pair (.pair (.int .i64) (.pair (.int .i64) (.pair .str .bool))) (.pair .str .str))))))))) (nth (Tr.val [] (Tr.lft (Tr.rgt σ.boxes))) 0)) .no, .int .i64 (intOf (nth (Tr.val [] (Tr.lft (Tr.rgt σ.boxes))) 1)), .int .i64 (intOf (nth (Tr.val [] (Tr.lft (Tr.rgt σ.boxes))) 2))], [], [], [.str (stringOf (nth (Tr.val [] (Tr.lft (Tr.lft (Tr.lft σ.boxes)))) 0)), .list .str (listOf .str (nth (Tr.val [] (Tr.lft (Tr.lft (Tr.lft σ.boxes)))) 1)) .no, .bool (boolOf (nth (Tr.val [] (Tr.lft (Tr.lft (Tr.lft σ.boxes)))) 2)), .int .i64 (intOf (nth (Tr.val [] (Tr.lft (Tr.lft (Tr.lft σ.boxes)))) 3)), .int .i64 (intOf (nth (Tr.val [] (Tr.lft (Tr.lft (Tr.lft σ.boxes)))) 4)), .list (.pair (.int .i64) (.pair (.pair (.int .i64) (.pair (.int .i64) (.pair .str .bool))) (.pair .str .str))) (listOf (.pair (.int .i64) (.pair (.pair (.int .i64) (.pair (.int .i64) (.pair .str .bool))) (.pair .str .str))) (nth (Tr.val [] (Tr.lft (Tr.lft (Tr.lft σ.boxes)))) 5)) .no], [], [], [], [], [], [], [], [], [], [], [], [], [], [], [], [], [], [], [], [], [], [], [], [], [], [], [], [], [], [], [], [], [], [], [], [], [], [], [], [], [], [], [], [], [], [], [], [], [], [], [], [], [], [], [], [], [], [], [], [], [], [], [], [], [], [], [], [], [], [], [], [], [], [], [], [], [], [], [], [], [], [], [], [], [], [], [], [], [], [], [], [], [], [], [], [], [], [], [], [], [], [.list (.pair .str (.list (.pair .str (.int .i64)))) (listOf (.pair .str (.list (.pair .str (.int .i64)))) (nth (Tr.val [] (Tr.rgt (Tr.lft (Tr.rgt (Tr.rgt (Tr.rgt (Tr.lft σ.boxes))))))) 0)) (.own false false)]]) 7⟩ := by kernel_rfl
      rw [pathEq_eq hp]
      exact (h (intOf (Tr.val .undef (Tr.rgt σ.slots))) (listOf .str (Tr.val .undef (Tr.lft (Tr.rgt (Tr.lft (Tr.rgt (Tr.rgt σ.slots))))))) (intOf (Tr.val .undef (Tr.lft (Tr.rgt (Tr.rgt (Tr.lft (Tr.lft σ.slots))))))) (intOf (Tr.val .undef (Tr.lft (Tr.rgt (Tr.rgt (Tr.lft (Tr.rgt σ.slots))))))) (listOf (.pair .str (.pair (.list .str) (.pair .bool (.pair (.int .i64) (.pair (.int .i64) (.list (.pair (.int .i64) (.pair (.pair (.int .i64) (.pair (.int .i64) (.pair .str .bool))) (.pair .str .str))))))))) (nth (Tr.val [] (Tr.lft (Tr.rgt σ.boxes))) 0)) (intOf (nth (Tr.val [] (Tr.lft (Tr.rgt σ.boxes))) 1)) (intOf (nth (Tr.val [] (Tr.lft (Tr.rgt σ.boxes))) 2)) (stringOf (nth (Tr.val [] (Tr.lft (Tr.lft (Tr.lft σ.boxes)))) 0)) (listOf .str (nth (Tr.val [] (Tr.lft (Tr.lft (Tr.lft σ.boxes)))) 1)) (boolOf (nth (Tr.val [] (Tr.lft (Tr.lft (Tr.lft σ.boxes)))) 2)) (intOf (nth (Tr.val [] (Tr.lft (Tr.lft (Tr.lft σ.boxes)))) 3)) (intOf (nth (Tr.val [] (Tr.lft (Tr.lft (Tr.lft σ.boxes)))) 4)) (listOf (.pair (.int .i64) (.pair (.pair (.int .i64) (.pair (.int .i64) (.pair .str .bool))) (.pair .str .str))) (nth (Tr.val [] (Tr.lft (Tr.lft (Tr.lft σ.boxes)))) 5)) (listOf (.pair .str (.list (.pair .str (.int .i64)))) (nth (Tr.val [] (Tr.rgt (Tr.lft (Tr.rgt (Tr.rgt (Tr.rgt (Tr.lft σ.boxes))))))) 0)) K).symm.trans (congrArg (fun s => (ev Try.prog cfg k).loop 15 1 κ [true, true, true, true, false, true, false] s K) (e.symm.trans (okSt_eq hs).symm))
    · rfl
  · rfl
theorem L15v1_0_k (gF13 : tF13) (gF23 : tF23) (gL15v1_0 : tL15v1_0) (cf : CallF) (lf : LoopF) (κ : Res → Option Res) (p0 : Int) (p1 : (List ByteArray)) (p2 : Int) (p3 : Int) (p4 : T14) (p5 : Int) (p6 : Int) (p7 : ByteArray) (p8 : (List ByteArray)) (p9 : Bool) (p10 : Int) (p11 : Int) (p12 : T8) (p13 : T5) (K : Cont) : evLp Try.prog cfg (F13_m gF13 (F23_m gF23 cf)) (L15v1_0_m gL15v1_0 lf) 15 1 κ [true, true, true, true, false, true, false] ⟨109, Tr.of (nthD .undef [.ref 109 0, .undef, .int .i64 p0, .undef, .ref 4 0, .undef, .undef, .ref 7 0, .undef, .undef, .undef, .undef, .undef, .undef, .undef, .undef, .undef, .undef, .undef, .undef, .undef, .undef, .undef, .undef, .undef, .undef, .undef, .undef, .undef, .undef, .undef, .undef, .undef, .undef, .undef, .undef, .undef, .undef, .undef, .undef, .undef, .undef, .list .str p1 .no, .int .i64 p2, .int .i64 p3]) 7, Tr.of (nthD [] [[], [], [], [], [.list (.pair .str (.pair (.list .str) (.pair .bool (.pair (.int .i64) (.pair (.int .i64) (.list (.pair (.int .i64) (.pair (.pair (.int .i64) (.pair (.int .i64) (.pair .str .bool))) (.pair .str .str))))))))) p4 .no, .int .i64 p5, .int .i64 p6], [], [], [.str p7, .list .str p8 .no, .bool p9, .int .i64 p10, .int .i64 p11, .list (.pair (.int .i64) (.pair (.pair (.int .i64) (.pair (.int .i64) (.pair .str .bool))) (.pair .str .str))) p12 .no], [], [], [], [], [], [], [], [], [], [], [], [], [], [], [], [], [], [], [], [], [], [], [], [], [], [], [], [], [], [], [], [], [], [], [], [], [], [], [], [], [], [], [], [], [], [], [], [], [], [], [], [], [], [], [], [], [], [], [], [], [], [], [], [], [], [], [], [], [], [], [], [], [], [], [], [], [], [], [], [], [], [], [], [], [], [], [], [], [], [], [], [], [], [], [], [], [], [], [], [], [], [.list (.pair .str (.list (.pair .str (.int .i64)))) p13 (.own false false)]]) 7⟩ K = L15v1_0_B gF13 gF23 gL15v1_0 (fun x => κ ((.int .i64 x.1, [[.list (.pair .str (.list (.pair .str (.int .i64)))) x.2 (.own false false)]]) : Res)) p0 p1 p2 p3 p4 p5 p6 p7 p8 p9 p10 p11 p12 p13 (fun v => K (.exit 0) ⟨109, Tr.of (nthD .undef [.ref 109 0, .undef, .int .i64 p0, .undef, .ref 4 0, .undef, .undef, .ref 7 0, .undef, .undef, .undef, .undef, .undef, .undef, .undef, .undef, .undef, .undef, .undef, .undef, .undef, .undef, .undef, .undef, .undef, .undef, .undef, .undef, .undef, .undef, .undef, .undef, .undef, .undef, .undef, .undef, .undef, .undef, .undef, .undef, .undef, .undef, .list .str p1 .no, .int .i64 p2, .int .i64 v.1]) 7, Tr.of (nthD [] [[], [], [], [], [.list (.pair .str (.pair (.list .str) (.pair .bool (.pair (.int .i64) (.pair (.int .i64) (.list (.pair (.int .i64) (.pair (.pair (.int .i64) (.pair (.int .i64) (.pair .str .bool))) (.pair .str .str))))))))) p4 .no, .int .i64 p5, .int .i64 p6], [], [], [.str p7, .list .str p8 .no, .bool p9, .int .i64 p10, .int .i64 p11, .list (.pair (.int .i64) (.pair (.pair (.int .i64) (.pair (.int .i64) (.pair .str .bool))) (.pair .str .str))) p12 .no], [], [], [], [], [], [], [], [], [], [], [], [], [], [], [], [], [], [], [], [], [], [], [], [], [], [], [], [], [], [], [], [], [], [], [], [], [], [], [], [], [], [], [], [], [], [], [], [], [], [], [], [], [], [], [], [], [], [], [], [], [], [], [], [], [], [], [], [], [], [], [], [], [], [], [], [], [], [], [], [], [], [], [], [], [], [], [], [], [], [], [], [], [], [], [], [], [], [], [], [], [], [.list (.pair .str (.list (.pair .str (.int .i64)))) v.2 (.own false false)]]) 7⟩) := by
  kernel_rfl
theorem L15v1_0_ev : ∀ (k : Nat) (κ : Res → Option Res) (p0 : Int) (p1 : (List ByteArray)) (p2 : Int) (p3 : Int) (p4 : T14) (p5 : Int) (p6 : Int) (p7 : ByteArray) (p8 : (List ByteArray)) (p9 : Bool) (p10 : Int) (p11 : Int) (p12 : T8) (p13 : T5) (K : Cont), (ev Try.prog cfg k).loop 15 1 κ [true, true, true, true, false, true, false] ⟨109, Tr.of (nthD .undef [.ref 109 0, .undef, .int .i64 p0, .undef, .ref 4 0, .undef, .undef, .ref 7 0, .undef, .undef, .undef, .undef, .undef, .undef, .undef, .undef, .undef, .undef, .undef, .undef, .undef, .undef, .undef, .undef, .undef, .undef, .undef, .undef, .undef, .undef, .undef, .undef, .undef, .undef, .undef, .undef, .undef, .undef, .undef, .undef, .undef, .undef, .list .str p1 .no, .int .i64 p2, .int .i64 p3]) 7, Tr.of (nthD [] [[], [], [], [], [.list (.pair .str (.pair (.list .str) (.pair .bool (.pair (.int .i64) (.pair (.int .i64) (.list (.pair (.int .i64) (.pair (.pair (.int .i64) (.pair (.int .i64) (.pair .str .bool))) (.pair .str .str))))))))) p4 .no, .int .i64 p5, .int .i64 p6], [], [], [.str p7, .list .str p8 .no, .bool p9, .int .i64 p10, .int .i64 p11, .list (.pair (.int .i64) (.pair (.pair (.int .i64) (.pair (.int .i64) (.pair .str .bool))) (.pair .str .str))) p12 .no], [], [], [], [], [], [], [], [], [], [], [], [], [], [], [], [], [], [], [], [], [], [], [], [], [], [], [], [], [], [], [], [], [], [], [], [], [], [], [], [], [], [], [], [], [], [], [], [], [], [], [], [], [], [], [], [], [], [], [], [], [], [], [], [], [], [], [], [], [], [], [], [], [], [], [], [], [], [], [], [], [], [], [], [], [], [], [], [], [], [], [], [], [], [], [], [], [], [], [], [], [], [.list (.pair .str (.list (.pair .str (.int .i64)))) p13 (.own false false)]]) 7⟩ K = L15v1_0 k (fun x => κ ((.int .i64 x.1, [[.list (.pair .str (.list (.pair .str (.int .i64)))) x.2 (.own false false)]]) : Res)) p0 p1 p2 p3 p4 p5 p6 p7 p8 p9 p10 p11 p12 p13 (fun v => K (.exit 0) ⟨109, Tr.of (nthD .undef [.ref 109 0, .undef, .int .i64 p0, .undef, .ref 4 0, .undef, .undef, .ref 7 0, .undef, .undef, .undef, .undef, .undef, .undef, .undef, .undef, .undef, .undef, .undef, .undef, .undef, .undef, .undef, .undef, .undef, .undef, .undef, .undef, .undef, .undef, .undef, .undef, .undef, .undef, .undef, .undef, .undef, .undef, .undef, .undef, .undef, .undef, .list .str p1 .no, .int .i64 p2, .int .i64 v.1]) 7, Tr.of (nthD [] [[], [], [], [], [.list (.pair .str (.pair (.list .str) (.pair .bool (.pair (.int .i64) (.pair (.int .i64) (.list (.pair (.int .i64) (.pair (.pair (.int .i64) (.pair (.int .i64) (.pair .str .bool))) (.pair .str .str))))))))) p4 .no, .int .i64 p5, .int .i64 p6], [], [], [.str p7, .list .str p8 .no, .bool p9, .int .i64 p10, .int .i64 p11, .list (.pair (.int .i64) (.pair (.pair (.int .i64) (.pair (.int .i64) (.pair .str .bool))) (.pair .str .str))) p12 .no], [], [], [], [], [], [], [], [], [], [], [], [], [], [], [], [], [], [], [], [], [], [], [], [], [], [], [], [], [], [], [], [], [], [], [], [], [], [], [], [], [], [], [], [], [], [], [], [], [], [], [], [], [], [], [], [], [], [], [], [], [], [], [], [], [], [], [], [], [], [], [], [], [], [], [], [], [], [], [], [], [], [], [], [], [], [], [], [], [], [], [], [], [], [], [], [], [], [], [], [], [], [.list (.pair .str (.list (.pair .str (.int .i64)))) v.2 (.own false false)]]) 7⟩) := by
  intro k κ
  induction k with
  | zero => intro p0 p1 p2 p3 p4 p5 p6 p7 p8 p9 p10 p11 p12 p13 K; rfl
  | succ k ih =>
    intro p0 p1 p2 p3 p4 p5 p6 p7 p8 p9 p10 p11 p12 p13 K
    rw [ev_loop, ← F13_d k (F13_ev k), ← F23_d k (F23_ev k), ← L15v1_0_d k κ ih]
    exact L15v1_0_k _ _ _ _ _ κ p0 p1 p2 p3 p4 p5 p6 p7 p8 p9 p10 p11 p12 p13 K
def F15v1_B (gF11 : tF11) (gF22 : tF22) (gF13 : tF13) (gF23 : tF23) (gF25 : tF25) (gF24v1 : tF24v1) (gL15v1_0 : tL15v1_0) (a1 : T15) (a2 : Int) (b0_0 : T5) (κ : Int × T5 → Option Res) : Option Res :=
  chk1 (if (true && (decide ((0 : Int) ≤ a2) && decide (a2 < (a1.1.length : Int)))) = true then
    (chk4 (gF11 ((a1.1.getD a2.toNat ((⟨#[]⟩ : ByteArray), (([] : List ByteArray), (false, ((0 : Int), ((0 : Int), ([] : List T7))))))).1) fun x1 =>
     chk1 (if (!x1) = true then
       (chk2 (κ ((1 : Int), b0_0)))
      else
       (chk2 (if (((((a1.1.getD a2.toNat ((⟨#[]⟩ : ByteArray), (([] : List ByteArray), (false, ((0 : Int), ((0 : Int), ([] : List T7))))))).2).1).length : Int) == (0 : Int)) = true then
         (chk1 (κ ((1 : Int), b0_0)))
        else
         (chk2 (if decide (((((a1.1.getD a2.toNat ((⟨#[]⟩ : ByteArray), (([] : List ByteArray), (false, ((0 : Int), ((0 : Int), ([] : List T7))))))).2).1).length : Int) > (16 : Int)) = true then
           (κ ((1 : Int), b0_0))
          else
           (chk1 (gF22 a1 ((a1.1.getD a2.toNat ((⟨#[]⟩ : ByteArray), (([] : List ByteArray), (false, ((0 : Int), ((0 : Int), ([] : List T7))))))).1) fun x2 =>
            chk2 (if decide (x2 < a2) = true then
              (κ ((4 : Int), b0_0))
             else
              (chk1 (gL15v1_0 a2 (((a1.1.getD a2.toNat ((⟨#[]⟩ : ByteArray), (([] : List ByteArray), (false, ((0 : Int), ((0 : Int), ([] : List T7))))))).2).1) ((((a1.1.getD a2.toNat ((⟨#[]⟩ : ByteArray), (([] : List ByteArray), (false, ((0 : Int), ((0 : Int), ([] : List T7))))))).2).1).length : Int) (0 : Int) a1.1 a1.2.1 a1.2.2 ((a1.1.getD a2.toNat ((⟨#[]⟩ : ByteArray), (([] : List ByteArray), (false, ((0 : Int), ((0 : Int), ([] : List T7))))))).1) (((a1.1.getD a2.toNat ((⟨#[]⟩ : ByteArray), (([] : List ByteArray), (false, ((0 : Int), ((0 : Int), ([] : List T7))))))).2).1) ((((a1.1.getD a2.toNat ((⟨#[]⟩ : ByteArray), (([] : List ByteArray), (false, ((0 : Int), ((0 : Int), ([] : List T7))))))).2).2).1) (((((a1.1.getD a2.toNat ((⟨#[]⟩ : ByteArray), (([] : List ByteArray), (false, ((0 : Int), ((0 : Int), ([] : List T7))))))).2).2).2).1) ((((((a1.1.getD a2.toNat ((⟨#[]⟩ : ByteArray), (([] : List ByteArray), (false, ((0 : Int), ((0 : Int), ([] : List T7))))))).2).2).2).2).1) ((((((a1.1.getD a2.toNat ((⟨#[]⟩ : ByteArray), (([] : List ByteArray), (false, ((0 : Int), ((0 : Int), ([] : List T7))))))).2).2).2).2).2) b0_0 fun v5 =>
               chk1 (if decide ((((((a1.1.getD a2.toNat ((⟨#[]⟩ : ByteArray), (([] : List ByteArray), (false, ((0 : Int), ((0 : Int), ([] : List T7))))))).2).2).2).1) < (1 : Int)) = true then
                 (chk3 (κ ((1 : Int), v5.2)))
                else
                 (chk1 (if decide (((((((a1.1.getD a2.toNat ((⟨#[]⟩ : ByteArray), (([] : List ByteArray), (false, ((0 : Int), ((0 : Int), ([] : List T7))))))).2).2).2).2).1) < (((((a1.1.getD a2.toNat ((⟨#[]⟩ : ByteArray), (([] : List ByteArray), (false, ((0 : Int), ((0 : Int), ([] : List T7))))))).2).2).2).1)) = true then
                   (chk2 (κ ((1 : Int), v5.2)))
                  else
                   (chk1 (if decide (((((((a1.1.getD a2.toNat ((⟨#[]⟩ : ByteArray), (([] : List ByteArray), (false, ((0 : Int), ((0 : Int), ([] : List T7))))))).2).2).2).2).1) > (4 : Int)) = true then
                     (chk1 (κ ((1 : Int), v5.2)))
                    else
                     (if (((a1.1.getD a2.toNat ((⟨#[]⟩ : ByteArray), (([] : List ByteArray), (false, ((0 : Int), ((0 : Int), ([] : List T7))))))).2).2).1 = true then
                      (chk1 (if (((((((a1.1.getD a2.toNat ((⟨#[]⟩ : ByteArray), (([] : List ByteArray), (false, ((0 : Int), ((0 : Int), ([] : List T7))))))).2).2).2).2).1) != (1 : Int)) = true then
                        (κ ((1 : Int), v5.2))
                       else
                        (chk2 (if ((((((((a1.1.getD a2.toNat ((⟨#[]⟩ : ByteArray), (([] : List ByteArray), (false, ((0 : Int), ((0 : Int), ([] : List T7))))))).2).2).2).2).2).length : Int) == (0 : Int)) = true then
                          (κ ((0 : Int), v5.2))
                         else
                          (chk1 (gF25 a1 a2 fun x6 =>
                           chk2 (gF24v1 x6 ((((((a1.1.getD a2.toNat ((⟨#[]⟩ : ByteArray), (([] : List ByteArray), (false, ((0 : Int), ((0 : Int), ([] : List T7))))))).2).2).2).2).2) v5.2 fun x7 =>
                            chk2 (if (x7.2.1 == (0 : Int)) = true then
                              (chk1 (if (x7.1 != (3 : Int)) = true then
                                (κ ((10 : Int), x7.2.2))
                               else
                                (κ (x7.2.1, x7.2.2))))
                             else
                              (if false = true then
                               (none)
                              else
                               (κ (x7.2.1, x7.2.2)))))))))))
                     else
                      (if false = true then
                       (none)
                      else
                       (chk2 (if ((((((((a1.1.getD a2.toNat ((⟨#[]⟩ : ByteArray), (([] : List ByteArray), (false, ((0 : Int), ((0 : Int), ([] : List T7))))))).2).2).2).2).2).length : Int) == (0 : Int)) = true then
                         (κ ((0 : Int), v5.2))
                        else
                         (chk1 (gF25 a1 a2 fun x8 =>
                          chk2 (gF24v1 x8 ((((((a1.1.getD a2.toNat ((⟨#[]⟩ : ByteArray), (([] : List ByteArray), (false, ((0 : Int), ((0 : Int), ([] : List T7))))))).2).2).2).2).2) v5.2 fun x9 =>
                           chk2 (if (x9.2.1 == (0 : Int)) = true then
                             (chk1 (if (x9.1 != (3 : Int)) = true then
                               (κ ((10 : Int), x9.2.2))
                              else
                               (κ (x9.2.1, x9.2.2))))
                            else
                             (if false = true then
                              (none)
                             else
                              (κ (x9.2.1, x9.2.2))))))))))))))))))))))))))))
   else
    (none))
/-- lamplighter/check.elem -/
def F15v1 : Nat → T15 → Int → T5 → (Int × T5 → Option Res) → Option Res
  | 0, _, _, _, _ => none
  | k + 1, a1, a2, b0_0, κ => F15v1_B (F11 k) (F22 k) (F13 k) (F23 k) (F25 k) (F24v1 k) (L15v1_0 k κ) a1 a2 b0_0 κ
def F15v1_s : List SC := [.one (.ref 0 0), .agg [.list (.pair .str (.pair (.list .str) (.pair .bool (.pair (.int .i64) (.pair (.int .i64) (.list (.pair (.int .i64) (.pair (.pair (.int .i64) (.pair (.int .i64) (.pair .str .bool))) (.pair .str .str))))))))) .no, .int .i64, .int .i64], .one (.int .i64)]
def F15v1_b : List (List SC) := [[.one (.list (.pair .str (.list (.pair .str (.int .i64)))) (.own false false))]]
def F15v1_m (g : T15 → Int → T5 → (Int × T5 → Option Res) → Option Res) (cf : CallF) : CallF := fun f args lent κ => match Nat.beq f 15 with
  | true => match okC F15v1_s args && okB F15v1_b lent with
    | true => g ((listOf (.pair .str (.pair (.list .str) (.pair .bool (.pair (.int .i64) (.pair (.int .i64) (.list (.pair (.int .i64) (.pair (.pair (.int .i64) (.pair (.int .i64) (.pair .str .bool))) (.pair .str .str))))))))) (nth (aggOf (nth args 1)) 0)), ((intOf (nth (aggOf (nth args 1)) 1)), (intOf (nth (aggOf (nth args 1)) 2)))) (intOf (nth args 2)) (listOf (.pair .str (.list (.pair .str (.int .i64)))) (nth (nthB lent 0) 0)) (fun x => κ ((.int .i64 x.1, [[.list (.pair .str (.list (.pair .str (.int .i64)))) x.2 (.own false false)]]) : Res))
    | false => cf f args lent κ
  | false => cf f args lent κ
theorem F15v1_d (k : Nat) (h : ∀ (a1 : T15) (a2 : Int) (b0_0 : T5) (κ : Res → Option Res), (ev Try.prog cfg k).call 15 [.ref 0 0, .agg [.list (.pair .str (.pair (.list .str) (.pair .bool (.pair (.int .i64) (.pair (.int .i64) (.list (.pair (.int .i64) (.pair (.pair (.int .i64) (.pair (.int .i64) (.pair .str .bool))) (.pair .str .str))))))))) a1.1 .no, .int .i64 a1.2.1, .int .i64 a1.2.2], .int .i64 a2] [[.list (.pair .str (.list (.pair .str (.int .i64)))) b0_0 (.own false false)]] κ = F15v1 k a1 a2 b0_0 (fun x => κ ((.int .i64 x.1, [[.list (.pair .str (.list (.pair .str (.int .i64)))) x.2 (.own false false)]]) : Res))) : F15v1_m (F15v1 k) (ev Try.prog cfg k).call = (ev Try.prog cfg k).call := by
  funext f args lent κ
  unfold F15v1_m
  split
  · rename_i hp
    split
    · rename_i hs
      rw [Bool.and_eq_true] at hs
      have e : mkC F15v1_s 0 args = [.ref 0 0, .agg [.list (.pair .str (.pair (.list .str) (.pair .bool (.pair (.int .i64) (.pair (.int .i64) (.list (.pair (.int .i64) (.pair (.pair (.int .i64) (.pair (.int .i64) (.pair .str .bool))) (.pair .str .str))))))))) (listOf (.pair .str (.pair (.list .str) (.pair .bool (.pair (.int .i64) (.pair (.int .i64) (.list (.pair (.int .i64) (.pair (.pair (.int .i64) (.pair (.int .i64) (.pair .str .bool))) (.pair .str .str))))))))) (nth (aggOf (nth args 1)) 0)) .no, .int .i64 (intOf (nth (aggOf (nth args 1)) 1)), .int .i64 (intOf (nth (aggOf (nth args 1)) 2))], .int .i64 (intOf (nth args 2))] := by kernel_rfl
      have e' : mkB F15v1_b 0 lent = [[.list (.pair .str (.list (.pair .str (.int .i64)))) (listOf (.pair .str (.list (.pair .str (.int .i64)))) (nth (nthB lent 0) 0)) (.own false false)]] := by kernel_rfl
      obtain rfl := Nat.eq_of_beq_eq_true hp
      exact (h ((listOf (.pair .str (.pair (.list .str) (.pair .bool (.pair (.int .i64) (.pair (.int .i64) (.list (.pair (.int .i64) (.pair (.pair (.int .i64) (.pair (.int .i64) (.pair .str .bool))) (.pair .str .str))))))))) (nth (aggOf (nth args 1)) 0)), ((intOf (nth (aggOf (nth args 1)) 1)), (intOf (nth (aggOf (nth args 1)) 2)))) (intOf (nth args 2)) (listOf (.pair .str (.list (.pair .str (.int .i64)))) (nth (nthB lent 0) 0)) κ).symm.trans (cong2 (fun a l => (ev Try.prog cfg k).call 15 a l κ) (e.symm.trans (okC_eq hs.1).symm) (e'.symm.trans (okB_eq hs.2).symm))
    · rfl
  · rfl
theorem F15v1_k (gF11 : tF11) (gF22 : tF22) (gF13 : tF13) (gF23 : tF23) (gF25 : tF25) (gF24v1 : tF24v1) (gL15v1_0 : tL15v1_0) (cf : CallF) (lf : LoopF) (a1 : T15) (a2 : Int) (b0_0 : T5) (κ : Res → Option Res) : evFn Try.prog cfg (F11_m gF11 (F22_m gF22 (F13_m gF13 (F23_m gF23 (F25_m gF25 (F24v1_m gF24v1 cf)))))) (L15v1_0_m gL15v1_0 lf) 15 [.ref 0 0, .agg [.list (.pair .str (.pair (.list .str) (.pair .bool (.pair (.int .i64) (.pair (.int .i64) (.list (.pair (.int .i64) (.pair (.pair (.int .i64) (.pair (.int .i64) (.pair .str .bool))) (.pair .str .str))))))))) a1.1 .no, .int .i64 a1.2.1, .int .i64 a1.2.2], .int .i64 a2] [[.list (.pair .str (.list (.pair .str (.int .i64)))) b0_0 (.own false false)]] κ = F15v1_B gF11 gF22 gF13 gF23 gF25 gF24v1 gL15v1_0 a1 a2 b0_0 (fun x => κ ((.int .i64 x.1, [[.list (.pair .str (.list (.pair .str (.int .i64)))) x.2 (.own false false)]]) : Res)) := by
  kernel_rfl
theorem F15v1_ev : ∀ (k : Nat) (a1 : T15) (a2 : Int) (b0_0 : T5) (κ : Res → Option Res), (ev Try.prog cfg k).call 15 [.ref 0 0, .agg [.list (.pair .str (.pair (.list .str) (.pair .bool (.pair (.int .i64) (.pair (.int .i64) (.list (.pair (.int .i64) (.pair (.pair (.int .i64) (.pair (.int .i64) (.pair .str .bool))) (.pair .str .str))))))))) a1.1 .no, .int .i64 a1.2.1, .int .i64 a1.2.2], .int .i64 a2] [[.list (.pair .str (.list (.pair .str (.int .i64)))) b0_0 (.own false false)]] κ = F15v1 k a1 a2 b0_0 (fun x => κ ((.int .i64 x.1, [[.list (.pair .str (.list (.pair .str (.int .i64)))) x.2 (.own false false)]]) : Res)) := by
  intro k
  induction k with
  | zero => intros; rfl
  | succ k ih =>
    intro a1 a2 b0_0 κ
    refine (ev_call' Try.prog cfg k 15 1 _ _ κ (by rfl)).trans ?_
    rw [← F11_d k (F11_ev k), ← F22_d k (F22_ev k), ← F13_d k (F13_ev k), ← F23_d k (F23_ev k), ← F25_d k (F25_ev k), ← F24v1_d k (F24v1_ev k), ← L15v1_0_d k κ (L15v1_0_ev k κ)]
    exact F15v1_k _ _ _ _ _ _ _ _ _ a1 a2 b0_0 κ
def L9v1_0_B (gF15v1 : tF15v1) (gL9v1_0 : tL9v1_0) (κ : Int × T5 → Option Res) (p0 : Int) (p1 : Int) (p2 : T14) (p3 : Int) (p4 : Int) (p5 : T5) (K : Int × T5 → Option Res) : Option Res :=
  chk1 (if decide (p1 < p0) = true then
    (chk1 (gF15v1 (p2, (p3, p4)) p1 p5 fun x1 =>
     chk2 (if (x1.1 != (0 : Int)) = true then
       (κ (x1.1, x1.2))
      else
       (chk1 (gL9v1_0 p0 (IntKind.wrap .i64 (p1 + (1 : Int))) p2 p3 p4 x1.2 K)))))
   else
    (K (p1, p5)))
def L9v1_0 : Nat → (Int × T5 → Option Res) → Int → Int → T14 → Int → Int → T5 → (Int × T5 → Option Res) → Option Res
  | 0, _, _, _, _, _, _, _, _ => none
  | k + 1, κ, p0, p1, p2, p3, p4, p5, K => L9v1_0_B (F15v1 k) (fun p0 p1 p2 p3 p4 p5 K => L9v1_0 k κ p0 p1 p2 p3 p4 p5 K) κ p0 p1 p2 p3 p4 p5 K
def L9v1_0_s : Tr SC := Tr.of (nthD (.one .undef) [.one (.ref 65 0), .one .undef, .one .undef, .one (.ref 3 0), .one .undef, .one .undef, .one .undef, .one .undef, .one .undef, .one .undef, .one .undef, .one .undef, .one .undef, .one .undef, .one .undef, .one .undef, .one .undef, .one .undef, .one .undef, .one .undef, .one .undef, .one .undef, .one .undef, .one .undef, .one .undef, .one .undef, .one .undef, .one .undef, .one .undef, .one .undef, .one .undef, .one .undef, .one .undef, .one .undef, .one .undef, .one (.int .i64), .one (.int .i64)]) 7
def L9v1_0_b : Tr (List SC) := Tr.of (nthD [] [[], [], [], [.one (.list (.pair .str (.pair (.list .str) (.pair .bool (.pair (.int .i64) (.pair (.int .i64) (.list (.pair (.int .i64) (.pair (.pair (.int .i64) (.pair (.int .i64) (.pair .str .bool))) (.pair .str .str))))))))) .no), .one (.int .i64), .one (.int .i64)], [], [], [], [], [], [], [], [], [], [], [], [], [], [], [], [], [], [], [], [], [], [], [], [], [], [], [], [], [], [], [], [], [], [], [], [], [], [], [], [], [], [], [], [], [], [], [], [], [], [], [], [], [], [], [], [], [], [], [], [], [], [.one (.list (.pair .str (.list (.pair .str (.int .i64)))) (.own false false))]]) 7
def L9v1_0_m (g : Int → Int → T14 → Int → Int → T5 → (Int × T5 → Option Res) → Option Res) (lf : LoopF) : LoopF := fun p σ K => match pathEq p [true, true, true, false, true, false] with
  | true => match okSt 65 L9v1_0_s L9v1_0_b σ with
    | true => g (intOf (Tr.val .undef (Tr.lft (Tr.lft (Tr.rgt (Tr.lft (Tr.lft σ.slots))))))) (intOf (Tr.val .undef (Tr.lft (Tr.lft (Tr.rgt (Tr.lft (Tr.rgt σ.slots))))))) (listOf (.pair .str (.pair (.list .str) (.pair .bool (.pair (.int .i64) (.pair (.int .i64) (.list (.pair (.int .i64) (.pair (.pair (.int .i64) (.pair (.int .i64) (.pair .str .bool))) (.pair .str .str))))))))) (nth (Tr.val [] (Tr.lft (Tr.lft σ.boxes))) 0)) (intOf (nth (Tr.val [] (Tr.lft (Tr.lft σ.boxes))) 1)) (intOf (nth (Tr.val [] (Tr.lft (Tr.lft σ.boxes))) 2)) (listOf (.pair .str (.list (.pair .str (.int .i64)))) (nth (Tr.val [] (Tr.lft (Tr.lft (Tr.lft (Tr.lft (Tr.rgt (Tr.lft σ.boxes))))))) 0)) (fun v => K (.exit 1) ⟨65, Tr.of (nthD .undef [.ref 65 0, .undef, .undef, .ref 3 0, .undef, .undef, .undef, .undef, .undef, .undef, .undef, .undef, .undef, .undef, .undef, .undef, .undef, .undef, .undef, .undef, .undef, .undef, .undef, .undef, .undef, .undef, .undef, .undef, .undef, .undef, .undef, .undef, .undef, .undef, .undef, .int .i64 (intOf (Tr.val .undef (Tr.lft (Tr.lft (Tr.rgt (Tr.lft (Tr.lft σ.slots))))))), .int .i64 v.1]) 7, Tr.of (nthD [] [[], [], [], [.list (.pair .str (.pair (.list .str) (.pair .bool (.pair (.int .i64) (.pair (.int .i64) (.list (.pair (.int .i64) (.pair (.pair (.int .i64) (.pair (.int .i64) (.pair .str .bool))) (.pair .str .str))))))))) (listOf (.pair .str (.pair (.list .str) (.pair .bool (.pair (.int .i64) (.pair (.int .i64) (.list (.pair (.int .i64) (.pair (.pair (.int .i64) (.pair (.int .i64) (.pair .str .bool))) (.pair .str .str))))))))) (nth (Tr.val [] (Tr.lft (Tr.lft σ.boxes))) 0)) .no, .int .i64 (intOf (nth (Tr.val [] (Tr.lft (Tr.lft σ.boxes))) 1)), .int .i64 (intOf (nth (Tr.val [] (Tr.lft (Tr.lft σ.boxes))) 2))], [], [], [], [], [], [], [], [], [], [], [], [], [], [], [], [], [], [], [], [], [], [], [], [], [], [], [], [], [], [], [], [], [], [], [], [], [], [], [], [], [], [], [], [], [], [], [], [], [], [], [], [], [], [], [], [], [], [], [], [], [], [.list (.pair .str (.list (.pair .str (.int .i64)))) v.2 (.own false false)]]) 7⟩)
    | false => lf p σ K
  | false => lf p σ K
theorem L9v1_0_d (k : Nat) (κ : Res → Option Res) (h : ∀ (p0 : Int) (p1 : Int) (p2 : T14) (p3 : Int) (p4 : Int) (p5 : T5) (K : Cont), (ev Try.prog cfg k).loop 9 1 κ [true, true, true, false, true, false] ⟨65, Tr.of (nthD .undef [.ref 65 0, .undef, .undef, .ref 3 0, .undef, .undef, .undef, .undef, .undef, .undef, .undef, .undef, .undef, .undef, .undef, .undef, .undef, .undef, .undef, .undef, .undef, .undef, .undef, .undef, .undef, .undef, .undef, .undef, .undef, .undef, .undef, .undef, .undef, .undef, .undef, .int .i64 p0, .int .i64 p1]) 7, Tr.of (nthD [] [[], [], [], [.list (.pair .str (.pair (.list .str) (.pair .bool (.pair (.int .i64) (.pair (.int .i64) (.list (.pair (.int .i64) (.pair (.pair (.int .i64) (.pair (.int .i64) (.pair .str .bool))) (.pair .str .str))))))))) p2 .no, .int .i64 p3, .int .i64 p4], [], [], [], [], [], [], [], [], [], [], [], [], [], [], [], [], [], [], [], [], [], [], [], [], [], [], [], [], [], [], [], [], [], [], [], [], [], [], [], [], [], [], [], [], [], [], [], [], [], [], [], [], [], [], [], [], [], [], [], [], [], [.list (.pair .str (.list (.pair .str (.int .i64)))) p5 (.own false false)]]) 7⟩ K = L9v1_0 k (fun x => κ ((.int .i64 x.1, [[.list (.pair .str (.list (.pair .str (.int .i64)))) x.2 (.own false false)]]) : Res)) p0 p1 p2 p3 p4 p5 (fun v => K (.exit 1) ⟨65, Tr.of (nthD .undef [.ref 65 0, .undef, .undef, .ref 3 0, .undef, .undef, .undef, .undef, .undef, .undef, .undef, .undef, .undef, .undef, .undef, .undef, .undef, .undef, .undef, .undef, .undef, .undef, .undef, .undef, .undef, .undef, .undef, .undef, .undef, .undef, .undef, .undef, .undef, .undef, .undef, .int .i64 p0, .int .i64 v.1]) 7, Tr.of (nthD [] [[], [], [], [.list (.pair .str (.pair (.list .str) (.pair .bool (.pair (.int .i64) (.pair (.int .i64) (.list (.pair (.int .i64) (.pair (.pair (.int .i64) (.pair (.int .i64) (.pair .str .bool))) (.pair .str .str))))))))) p2 .no, .int .i64 p3, .int .i64 p4], [], [], [], [], [], [], [], [], [], [], [], [], [], [], [], [], [], [], [], [], [], [], [], [], [], [], [], [], [], [], [], [], [], [], [], [], [], [], [], [], [], [], [], [], [], [], [], [], [], [], [], [], [], [], [], [], [], [], [], [], [], [.list (.pair .str (.list (.pair .str (.int .i64)))) v.2 (.own false false)]]) 7⟩)) : L9v1_0_m (L9v1_0 k (fun x => κ ((.int .i64 x.1, [[.list (.pair .str (.list (.pair .str (.int .i64)))) x.2 (.own false false)]]) : Res))) ((ev Try.prog cfg k).loop 9 1 κ) = (ev Try.prog cfg k).loop 9 1 κ := by
  funext p σ K
  unfold L9v1_0_m
  split
  · rename_i hp
    split
    · rename_i hs
      have e : mkSt 65 L9v1_0_s L9v1_0_b σ = ⟨65, Tr.of (nthD .undef [.ref 65 0, .undef, .undef, .ref 3 0, .undef, .undef, .undef, .undef, .undef, .undef, .undef, .undef, .undef, .undef, .undef, .undef, .undef, .undef, .undef, .undef, .undef, .undef, .undef, .undef, .undef, .undef, .undef, .undef, .undef, .undef, .undef, .undef, .undef, .undef, .undef, .int .i64 (intOf (Tr.val .undef (Tr.lft (Tr.lft (Tr.rgt (Tr.lft (Tr.lft σ.slots))))))), .int .i64 (intOf (Tr.val .undef (Tr.lft (Tr.lft (Tr.rgt (Tr.lft (Tr.rgt σ.slots)))))))]) 7, Tr.of (nthD [] [[], [], [], [.list (.pair .str (.pair (.list .str) (.pair .bool (.pair (.int .i64) (.pair (.int .i64) (.list (.pair (.int .i64) (.pair (.pair (.int .i64) (.pair (.int .i64) (.pair .str .bool))) (.pair .str .str))))))))) (listOf (.pair .str (.pair (.list .str) (.pair .bool (.pair (.int .i64) (.pair (.int .i64) (.list (.pair (.int .i64) (.pair (.pair (.int .i64) (.pair (.int .i64) (.pair .str .bool))) (.pair .str .str))))))))) (nth (Tr.val [] (Tr.lft (Tr.lft σ.boxes))) 0)) .no, .int .i64 (intOf (nth (Tr.val [] (Tr.lft (Tr.lft σ.boxes))) 1)), .int .i64 (intOf (nth (Tr.val [] (Tr.lft (Tr.lft σ.boxes))) 2))], [], [], [], [], [], [], [], [], [], [], [], [], [], [], [], [], [], [], [], [], [], [], [], [], [], [], [], [], [], [], [], [], [], [], [], [], [], [], [], [], [], [], [], [], [], [], [], [], [], [], [], [], [], [], [], [], [], [], [], [], [], [.list (.pair .str (.list (.pair .str (.int .i64)))) (listOf (.pair .str (.list (.pair .str (.int .i64)))) (nth (Tr.val [] (Tr.lft (Tr.lft (Tr.lft (Tr.lft (Tr.rgt (Tr.lft σ.boxes))))))) 0)) (.own false false)]]) 7⟩ := by kernel_rfl
      rw [pathEq_eq hp]
      exact (h (intOf (Tr.val .undef (Tr.lft (Tr.lft (Tr.rgt (Tr.lft (Tr.lft σ.slots))))))) (intOf (Tr.val .undef (Tr.lft (Tr.lft (Tr.rgt (Tr.lft (Tr.rgt σ.slots))))))) (listOf (.pair .str (.pair (.list .str) (.pair .bool (.pair (.int .i64) (.pair (.int .i64) (.list (.pair (.int .i64) (.pair (.pair (.int .i64) (.pair (.int .i64) (.pair .str .bool))) (.pair .str .str))))))))) (nth (Tr.val [] (Tr.lft (Tr.lft σ.boxes))) 0)) (intOf (nth (Tr.val [] (Tr.lft (Tr.lft σ.boxes))) 1)) (intOf (nth (Tr.val [] (Tr.lft (Tr.lft σ.boxes))) 2)) (listOf (.pair .str (.list (.pair .str (.int .i64)))) (nth (Tr.val [] (Tr.lft (Tr.lft (Tr.lft (Tr.lft (Tr.rgt (Tr.lft σ.boxes))))))) 0)) K).symm.trans (congrArg (fun s => (ev Try.prog cfg k).loop 9 1 κ [true, true, true, false, true, false] s K) (e.symm.trans (okSt_eq hs).symm))
    · rfl
  · rfl
theorem L9v1_0_k (gF15v1 : tF15v1) (gL9v1_0 : tL9v1_0) (cf : CallF) (lf : LoopF) (κ : Res → Option Res) (p0 : Int) (p1 : Int) (p2 : T14) (p3 : Int) (p4 : Int) (p5 : T5) (K : Cont) : evLp Try.prog cfg (F15v1_m gF15v1 cf) (L9v1_0_m gL9v1_0 lf) 9 1 κ [true, true, true, false, true, false] ⟨65, Tr.of (nthD .undef [.ref 65 0, .undef, .undef, .ref 3 0, .undef, .undef, .undef, .undef, .undef, .undef, .undef, .undef, .undef, .undef, .undef, .undef, .undef, .undef, .undef, .undef, .undef, .undef, .undef, .undef, .undef, .undef, .undef, .undef, .undef, .undef, .undef, .undef, .undef, .undef, .undef, .int .i64 p0, .int .i64 p1]) 7, Tr.of (nthD [] [[], [], [], [.list (.pair .str (.pair (.list .str) (.pair .bool (.pair (.int .i64) (.pair (.int .i64) (.list (.pair (.int .i64) (.pair (.pair (.int .i64) (.pair (.int .i64) (.pair .str .bool))) (.pair .str .str))))))))) p2 .no, .int .i64 p3, .int .i64 p4], [], [], [], [], [], [], [], [], [], [], [], [], [], [], [], [], [], [], [], [], [], [], [], [], [], [], [], [], [], [], [], [], [], [], [], [], [], [], [], [], [], [], [], [], [], [], [], [], [], [], [], [], [], [], [], [], [], [], [], [], [], [.list (.pair .str (.list (.pair .str (.int .i64)))) p5 (.own false false)]]) 7⟩ K = L9v1_0_B gF15v1 gL9v1_0 (fun x => κ ((.int .i64 x.1, [[.list (.pair .str (.list (.pair .str (.int .i64)))) x.2 (.own false false)]]) : Res)) p0 p1 p2 p3 p4 p5 (fun v => K (.exit 1) ⟨65, Tr.of (nthD .undef [.ref 65 0, .undef, .undef, .ref 3 0, .undef, .undef, .undef, .undef, .undef, .undef, .undef, .undef, .undef, .undef, .undef, .undef, .undef, .undef, .undef, .undef, .undef, .undef, .undef, .undef, .undef, .undef, .undef, .undef, .undef, .undef, .undef, .undef, .undef, .undef, .undef, .int .i64 p0, .int .i64 v.1]) 7, Tr.of (nthD [] [[], [], [], [.list (.pair .str (.pair (.list .str) (.pair .bool (.pair (.int .i64) (.pair (.int .i64) (.list (.pair (.int .i64) (.pair (.pair (.int .i64) (.pair (.int .i64) (.pair .str .bool))) (.pair .str .str))))))))) p2 .no, .int .i64 p3, .int .i64 p4], [], [], [], [], [], [], [], [], [], [], [], [], [], [], [], [], [], [], [], [], [], [], [], [], [], [], [], [], [], [], [], [], [], [], [], [], [], [], [], [], [], [], [], [], [], [], [], [], [], [], [], [], [], [], [], [], [], [], [], [], [], [.list (.pair .str (.list (.pair .str (.int .i64)))) v.2 (.own false false)]]) 7⟩) := by
  kernel_rfl
theorem L9v1_0_ev : ∀ (k : Nat) (κ : Res → Option Res) (p0 : Int) (p1 : Int) (p2 : T14) (p3 : Int) (p4 : Int) (p5 : T5) (K : Cont), (ev Try.prog cfg k).loop 9 1 κ [true, true, true, false, true, false] ⟨65, Tr.of (nthD .undef [.ref 65 0, .undef, .undef, .ref 3 0, .undef, .undef, .undef, .undef, .undef, .undef, .undef, .undef, .undef, .undef, .undef, .undef, .undef, .undef, .undef, .undef, .undef, .undef, .undef, .undef, .undef, .undef, .undef, .undef, .undef, .undef, .undef, .undef, .undef, .undef, .undef, .int .i64 p0, .int .i64 p1]) 7, Tr.of (nthD [] [[], [], [], [.list (.pair .str (.pair (.list .str) (.pair .bool (.pair (.int .i64) (.pair (.int .i64) (.list (.pair (.int .i64) (.pair (.pair (.int .i64) (.pair (.int .i64) (.pair .str .bool))) (.pair .str .str))))))))) p2 .no, .int .i64 p3, .int .i64 p4], [], [], [], [], [], [], [], [], [], [], [], [], [], [], [], [], [], [], [], [], [], [], [], [], [], [], [], [], [], [], [], [], [], [], [], [], [], [], [], [], [], [], [], [], [], [], [], [], [], [], [], [], [], [], [], [], [], [], [], [], [], [.list (.pair .str (.list (.pair .str (.int .i64)))) p5 (.own false false)]]) 7⟩ K = L9v1_0 k (fun x => κ ((.int .i64 x.1, [[.list (.pair .str (.list (.pair .str (.int .i64)))) x.2 (.own false false)]]) : Res)) p0 p1 p2 p3 p4 p5 (fun v => K (.exit 1) ⟨65, Tr.of (nthD .undef [.ref 65 0, .undef, .undef, .ref 3 0, .undef, .undef, .undef, .undef, .undef, .undef, .undef, .undef, .undef, .undef, .undef, .undef, .undef, .undef, .undef, .undef, .undef, .undef, .undef, .undef, .undef, .undef, .undef, .undef, .undef, .undef, .undef, .undef, .undef, .undef, .undef, .int .i64 p0, .int .i64 v.1]) 7, Tr.of (nthD [] [[], [], [], [.list (.pair .str (.pair (.list .str) (.pair .bool (.pair (.int .i64) (.pair (.int .i64) (.list (.pair (.int .i64) (.pair (.pair (.int .i64) (.pair (.int .i64) (.pair .str .bool))) (.pair .str .str))))))))) p2 .no, .int .i64 p3, .int .i64 p4], [], [], [], [], [], [], [], [], [], [], [], [], [], [], [], [], [], [], [], [], [], [], [], [], [], [], [], [], [], [], [], [], [], [], [], [], [], [], [], [], [], [], [], [], [], [], [], [], [], [], [], [], [], [], [], [], [], [], [], [], [], [.list (.pair .str (.list (.pair .str (.int .i64)))) v.2 (.own false false)]]) 7⟩) := by
  intro k κ
  induction k with
  | zero => intro p0 p1 p2 p3 p4 p5 K; rfl
  | succ k ih =>
    intro p0 p1 p2 p3 p4 p5 K
    rw [ev_loop, ← F15v1_d k (F15v1_ev k), ← L9v1_0_d k κ ih]
    exact L9v1_0_k _ _ _ _ κ p0 p1 p2 p3 p4 p5 K
def F9v1_B (gF15v1 : tF15v1) (gL9v1_0 : tL9v1_0) (a1 : T15) (b0_0 : T5) (κ : Int × T5 → Option Res) : Option Res :=
  chk3 (if decide ((a1.1.length : Int) > (8 : Int)) = true then
    (κ ((5 : Int), b0_0))
   else
    (chk1 (if ((a1.1.length : Int) == (0 : Int)) = true then
      (chk2 (κ ((1 : Int), b0_0)))
     else
      (if (true && (true && decide ((0 : Int) < (a1.1.length : Int)))) = true then
       (if (((a1.1.getD (0 : Int).toNat ((⟨#[]⟩ : ByteArray), (([] : List ByteArray), (false, ((0 : Int), ((0 : Int), ([] : List T7))))))).2).2).1 = true then
        (chk1 (κ ((1 : Int), b0_0)))
       else
        (chk1 (if (true && (decide ((0 : Int) ≤ (IntKind.wrap .i64 ((a1.1.length : Int) - (1 : Int)))) && decide ((IntKind.wrap .i64 ((a1.1.length : Int) - (1 : Int))) < (a1.1.length : Int)))) = true then
          (if (((a1.1.getD (IntKind.wrap .i64 ((a1.1.length : Int) - (1 : Int))).toNat ((⟨#[]⟩ : ByteArray), (([] : List ByteArray), (false, ((0 : Int), ((0 : Int), ([] : List T7))))))).2).2).1 = true then
           (κ ((1 : Int), b0_0))
          else
           (chk1 (gL9v1_0 (a1.1.length : Int) (0 : Int) a1.1 a1.2.1 a1.2.2 b0_0 fun v2 =>
            chk1 (if decide (a1.2.1 < (1 : Int)) = true then
              (chk1 (κ ((13 : Int), v2.2)))
             else
              (chk1 (if decide (a1.2.1 > (4294967296 : Int)) = true then
                (κ ((13 : Int), v2.2))
               else
                (chk1 (if decide (a1.2.2 < (1 : Int)) = true then
                  (chk1 (κ ((5 : Int), v2.2)))
                 else
                  (chk1 (if decide (a1.2.2 > (1000 : Int)) = true then
                    (κ ((5 : Int), v2.2))
                   else
                    (κ ((0 : Int), v2.2))))))))))))
         else
          (none))))
      else
       (none)))))
/-- lamplighter/check.Query -/
def F9v1 : Nat → T15 → T5 → (Int × T5 → Option Res) → Option Res
  | 0, _, _, _ => none
  | k + 1, a1, b0_0, κ => F9v1_B (F15v1 k) (L9v1_0 k κ) a1 b0_0 κ
def F9v1_s : List SC := [.one (.ref 0 0), .agg [.list (.pair .str (.pair (.list .str) (.pair .bool (.pair (.int .i64) (.pair (.int .i64) (.list (.pair (.int .i64) (.pair (.pair (.int .i64) (.pair (.int .i64) (.pair .str .bool))) (.pair .str .str))))))))) .no, .int .i64, .int .i64]]
def F9v1_b : List (List SC) := [[.one (.list (.pair .str (.list (.pair .str (.int .i64)))) (.own false false))]]
def F9v1_m (g : T15 → T5 → (Int × T5 → Option Res) → Option Res) (cf : CallF) : CallF := fun f args lent κ => match Nat.beq f 9 with
  | true => match okC F9v1_s args && okB F9v1_b lent with
    | true => g ((listOf (.pair .str (.pair (.list .str) (.pair .bool (.pair (.int .i64) (.pair (.int .i64) (.list (.pair (.int .i64) (.pair (.pair (.int .i64) (.pair (.int .i64) (.pair .str .bool))) (.pair .str .str))))))))) (nth (aggOf (nth args 1)) 0)), ((intOf (nth (aggOf (nth args 1)) 1)), (intOf (nth (aggOf (nth args 1)) 2)))) (listOf (.pair .str (.list (.pair .str (.int .i64)))) (nth (nthB lent 0) 0)) (fun x => κ ((.int .i64 x.1, [[.list (.pair .str (.list (.pair .str (.int .i64)))) x.2 (.own false false)]]) : Res))
    | false => cf f args lent κ
  | false => cf f args lent κ
theorem F9v1_d (k : Nat) (h : ∀ (a1 : T15) (b0_0 : T5) (κ : Res → Option Res), (ev Try.prog cfg k).call 9 [.ref 0 0, .agg [.list (.pair .str (.pair (.list .str) (.pair .bool (.pair (.int .i64) (.pair (.int .i64) (.list (.pair (.int .i64) (.pair (.pair (.int .i64) (.pair (.int .i64) (.pair .str .bool))) (.pair .str .str))))))))) a1.1 .no, .int .i64 a1.2.1, .int .i64 a1.2.2]] [[.list (.pair .str (.list (.pair .str (.int .i64)))) b0_0 (.own false false)]] κ = F9v1 k a1 b0_0 (fun x => κ ((.int .i64 x.1, [[.list (.pair .str (.list (.pair .str (.int .i64)))) x.2 (.own false false)]]) : Res))) : F9v1_m (F9v1 k) (ev Try.prog cfg k).call = (ev Try.prog cfg k).call := by
  funext f args lent κ
  unfold F9v1_m
  split
  · rename_i hp
    split
    · rename_i hs
      rw [Bool.and_eq_true] at hs
      have e : mkC F9v1_s 0 args = [.ref 0 0, .agg [.list (.pair .str (.pair (.list .str) (.pair .bool (.pair (.int .i64) (.pair (.int .i64) (.list (.pair (.int .i64) (.pair (.pair (.int .i64) (.pair (.int .i64) (.pair .str .bool))) (.pair .str .str))))))))) (listOf (.pair .str (.pair (.list .str) (.pair .bool (.pair (.int .i64) (.pair (.int .i64) (.list (.pair (.int .i64) (.pair (.pair (.int .i64) (.pair (.int .i64) (.pair .str .bool))) (.pair .str .str))))))))) (nth (aggOf (nth args 1)) 0)) .no, .int .i64 (intOf (nth (aggOf (nth args 1)) 1)), .int .i64 (intOf (nth (aggOf (nth args 1)) 2))]] := by kernel_rfl
      have e' : mkB F9v1_b 0 lent = [[.list (.pair .str (.list (.pair .str (.int .i64)))) (listOf (.pair .str (.list (.pair .str (.int .i64)))) (nth (nthB lent 0) 0)) (.own false false)]] := by kernel_rfl
      obtain rfl := Nat.eq_of_beq_eq_true hp
      exact (h ((listOf (.pair .str (.pair (.list .str) (.pair .bool (.pair (.int .i64) (.pair (.int .i64) (.list (.pair (.int .i64) (.pair (.pair (.int .i64) (.pair (.int .i64) (.pair .str .bool))) (.pair .str .str))))))))) (nth (aggOf (nth args 1)) 0)), ((intOf (nth (aggOf (nth args 1)) 1)), (intOf (nth (aggOf (nth args 1)) 2)))) (listOf (.pair .str (.list (.pair .str (.int .i64)))) (nth (nthB lent 0) 0)) κ).symm.trans (cong2 (fun a l => (ev Try.prog cfg k).call 9 a l κ) (e.symm.trans (okC_eq hs.1).symm) (e'.symm.trans (okB_eq hs.2).symm))
    · rfl
  · rfl
theorem F9v1_k (gF15v1 : tF15v1) (gL9v1_0 : tL9v1_0) (cf : CallF) (lf : LoopF) (a1 : T15) (b0_0 : T5) (κ : Res → Option Res) : evFn Try.prog cfg (F15v1_m gF15v1 cf) (L9v1_0_m gL9v1_0 lf) 9 [.ref 0 0, .agg [.list (.pair .str (.pair (.list .str) (.pair .bool (.pair (.int .i64) (.pair (.int .i64) (.list (.pair (.int .i64) (.pair (.pair (.int .i64) (.pair (.int .i64) (.pair .str .bool))) (.pair .str .str))))))))) a1.1 .no, .int .i64 a1.2.1, .int .i64 a1.2.2]] [[.list (.pair .str (.list (.pair .str (.int .i64)))) b0_0 (.own false false)]] κ = F9v1_B gF15v1 gL9v1_0 a1 b0_0 (fun x => κ ((.int .i64 x.1, [[.list (.pair .str (.list (.pair .str (.int .i64)))) x.2 (.own false false)]]) : Res)) := by
  kernel_rfl
theorem F9v1_ev : ∀ (k : Nat) (a1 : T15) (b0_0 : T5) (κ : Res → Option Res), (ev Try.prog cfg k).call 9 [.ref 0 0, .agg [.list (.pair .str (.pair (.list .str) (.pair .bool (.pair (.int .i64) (.pair (.int .i64) (.list (.pair (.int .i64) (.pair (.pair (.int .i64) (.pair (.int .i64) (.pair .str .bool))) (.pair .str .str))))))))) a1.1 .no, .int .i64 a1.2.1, .int .i64 a1.2.2]] [[.list (.pair .str (.list (.pair .str (.int .i64)))) b0_0 (.own false false)]] κ = F9v1 k a1 b0_0 (fun x => κ ((.int .i64 x.1, [[.list (.pair .str (.list (.pair .str (.int .i64)))) x.2 (.own false false)]]) : Res)) := by
  intro k
  induction k with
  | zero => intros; rfl
  | succ k ih =>
    intro a1 b0_0 κ
    refine (ev_call' Try.prog cfg k 9 1 _ _ κ (by rfl)).trans ?_
    rw [← F15v1_d k (F15v1_ev k), ← L9v1_0_d k κ (L9v1_0_ev k κ)]
    exact F9v1_k _ _ _ _ a1 b0_0 κ
def F8_B (gF7 : tF7) (gF6 : tF6) (gF9 : tF9) (gF9v1 : tF9v1)  (κ : Bool → Option Res) : Option Res :=
  chk1 (gF7  fun x1 =>
   chk2 (gF6 x1 (fun x2 =>
     chk8 (chk8 (chk7 (gF9 (([((⟨#[97]⟩ : ByteArray), (([(⟨#[65]⟩ : ByteArray)] : List ByteArray), (false, ((1 : Int), ((1 : Int), ([] : List T7))))))] : List T13), ((5 : Int), (1 : Int))) fun x3 =>
        chk2 (if (x3 == (0 : Int)) = true then
          (chk1 (gF9 (([((⟨#[97]⟩ : ByteArray), (([(⟨#[65]⟩ : ByteArray)] : List ByteArray), (false, ((1 : Int), ((1 : Int), ([] : List T7))))))] : List T13), ((0 : Int), (1 : Int))) fun x4 =>
           chk2 (κ (x4 == (13 : Int)))))
         else
          (κ false)))))) (fun x5 =>
     chk8 (chk8 (chk7 (gF9v1 (([((⟨#[97]⟩ : ByteArray), (([(⟨#[65]⟩ : ByteArray)] : List ByteArray), (false, ((1 : Int), ((1 : Int), ([] : List T7))))))] : List T13), ((5 : Int), (1 : Int))) x5.2 fun x6 =>
        chk2 (if (x6.1 == (0 : Int)) = true then
          (chk1 (gF9v1 (([((⟨#[97]⟩ : ByteArray), (([(⟨#[65]⟩ : ByteArray)] : List ByteArray), (false, ((1 : Int), ((1 : Int), ([] : List T7))))))] : List T13), ((0 : Int), (1 : Int))) x6.2 fun x7 =>
           chk2 (κ (x7.1 == (13 : Int)))))
         else
          (κ false))))))))
/-- lamplighter/lamplighterlaw18.awake -/
def F8 : Nat →  (Bool → Option Res) → Option Res
  | 0, _ => none
  | k + 1, κ => F8_B (F7 k) (F6 k) (F9 k) (F9v1 k)  κ
def F8_s : List SC := []
def F8_b : List (List SC) := []
def F8_m (g : (Bool → Option Res) → Option Res) (cf : CallF) : CallF := fun f args lent κ => match Nat.beq f 8 with
  | true => match okC F8_s args && okB F8_b lent with
    | true => g  (fun x => κ ((.bool x, []) : Res))
    | false => cf f args lent κ
  | false => cf f args lent κ
theorem F8_d (k : Nat) (h : ∀  (κ : Res → Option Res), (ev Try.prog cfg k).call 8 [] [] κ = F8 k  (fun x => κ ((.bool x, []) : Res))) : F8_m (F8 k) (ev Try.prog cfg k).call = (ev Try.prog cfg k).call := by
  funext f args lent κ
  unfold F8_m
  split
  · rename_i hp
    split
    · rename_i hs
      rw [Bool.and_eq_true] at hs
      have e : mkC F8_s 0 args = [] := by kernel_rfl
      have e' : mkB F8_b 0 lent = [] := by kernel_rfl
      obtain rfl := Nat.eq_of_beq_eq_true hp
      exact (h  κ).symm.trans (cong2 (fun a l => (ev Try.prog cfg k).call 8 a l κ) (e.symm.trans (okC_eq hs.1).symm) (e'.symm.trans (okB_eq hs.2).symm))
    · rfl
  · rfl
theorem F8_k (gF7 : tF7) (gF6 : tF6) (gF9 : tF9) (gF9v1 : tF9v1) (cf : CallF) (lf : LoopF)  (κ : Res → Option Res) : evFn Try.prog cfg (F7_m gF7 (F6_m gF6 (F9_m gF9 (F9v1_m gF9v1 cf)))) lf 8 [] [] κ = F8_B gF7 gF6 gF9 gF9v1  (fun x => κ ((.bool x, []) : Res)) := by
  kernel_rfl
theorem F8_ev : ∀ (k : Nat)  (κ : Res → Option Res), (ev Try.prog cfg k).call 8 [] [] κ = F8 k  (fun x => κ ((.bool x, []) : Res)) := by
  intro k
  induction k with
  | zero => intros; rfl
  | succ k ih =>
    intro  κ
    refine (ev_call' Try.prog cfg k 8 0 _ _ κ (by rfl)).trans ?_
    rw [← F7_d k (F7_ev k), ← F6_d k (F6_ev k), ← F9_d k (F9_ev k), ← F9v1_d k (F9v1_ev k)]
    exact F8_k _ _ _ _ _ _  κ
def F16_B   (κ : (List ByteArray) → Option Res) : Option Res :=
  chk5 (κ ([(⟨#[97]⟩ : ByteArray), (⟨#[98]⟩ : ByteArray), (⟨#[99]⟩ : ByteArray), (⟨#[101]⟩ : ByteArray)] : List ByteArray))
/-- lamplighter/lamplighterref16.Vars -/
def F16 : Nat →  ((List ByteArray) → Option Res) → Option Res
  | 0, _ => none
  | k + 1, κ => F16_B   κ
def F16_s : List SC := []
def F16_b : List (List SC) := []
def F16_m (g : ((List ByteArray) → Option Res) → Option Res) (cf : CallF) : CallF := fun f args lent κ => match Nat.beq f 16 with
  | true => match okC F16_s args && okB F16_b lent with
    | true => g  (fun x => κ ((.list .str x (.own false false), []) : Res))
    | false => cf f args lent κ
  | false => cf f args lent κ
theorem F16_d (k : Nat) (h : ∀  (κ : Res → Option Res), (ev Try.prog cfg k).call 16 [] [] κ = F16 k  (fun x => κ ((.list .str x (.own false false), []) : Res))) : F16_m (F16 k) (ev Try.prog cfg k).call = (ev Try.prog cfg k).call := by
  funext f args lent κ
  unfold F16_m
  split
  · rename_i hp
    split
    · rename_i hs
      rw [Bool.and_eq_true] at hs
      have e : mkC F16_s 0 args = [] := by kernel_rfl
      have e' : mkB F16_b 0 lent = [] := by kernel_rfl
      obtain rfl := Nat.eq_of_beq_eq_true hp
      exact (h  κ).symm.trans (cong2 (fun a l => (ev Try.prog cfg k).call 16 a l κ) (e.symm.trans (okC_eq hs.1).symm) (e'.symm.trans (okB_eq hs.2).symm))
    · rfl
  · rfl
theorem F16_k  (cf : CallF) (lf : LoopF)  (κ : Res → Option Res) : evFn Try.prog cfg cf lf 16 [] [] κ = F16_B   (fun x => κ ((.list .str x (.own false false), []) : Res)) := by
  kernel_rfl
theorem F16_ev : ∀ (k : Nat)  (κ : Res → Option Res), (ev Try.prog cfg k).call 16 [] [] κ = F16 k  (fun x => κ ((.list .str x (.own false false), []) : Res)) := by
  intro k
  induction k with
  | zero => intros; rfl
  | succ k ih =>
    intro  κ
    refine (ev_call' Try.prog cfg k 16 0 _ _ κ (by rfl)).trans ?_
    skip
    exact F16_k  _ _  κ
def F17_B  (a0 : Int) (κ : (List ByteArray) → Option Res) : Option Res :=
  chk8 (chk8 (chk8 (if (true && (decide ((0 : Int) ≤ (Int.tmod a0 (6 : Int))) && decide ((Int.tmod a0 (6 : Int)) < (([([(⟨#[65]⟩ : ByteArray)] : List ByteArray), ([(⟨#[66]⟩ : ByteArray)] : List ByteArray), ([(⟨#[67]⟩ : ByteArray)] : List ByteArray), ([(⟨#[65]⟩ : ByteArray), (⟨#[66]⟩ : ByteArray)] : List ByteArray), ([(⟨#[66]⟩ : ByteArray), (⟨#[67]⟩ : ByteArray)] : List ByteArray), ([(⟨#[65]⟩ : ByteArray), (⟨#[66]⟩ : ByteArray), (⟨#[67]⟩ : ByteArray)] : List ByteArray)] : List (List ByteArray)).length : Int)))) = true then κ (([([(⟨#[65]⟩ : ByteArray)] : List ByteArray), ([(⟨#[66]⟩ : ByteArray)] : List ByteArray), ([(⟨#[67]⟩ : ByteArray)] : List ByteArray), ([(⟨#[65]⟩ : ByteArray), (⟨#[66]⟩ : ByteArray)] : List ByteArray), ([(⟨#[66]⟩ : ByteArray), (⟨#[67]⟩ : ByteArray)] : List ByteArray), ([(⟨#[65]⟩ : ByteArray), (⟨#[66]⟩ : ByteArray), (⟨#[67]⟩ : ByteArray)] : List ByteArray)] : List (List ByteArray)).getD (Int.tmod a0 (6 : Int)).toNat ([] : List ByteArray)) else none)))
/-- lamplighter/lamplighterref16.types -/
def F17 : Nat → Int → ((List ByteArray) → Option Res) → Option Res
  | 0, _, _ => none
  | k + 1, a0, κ => F17_B  a0 κ
def F17_s : List SC := [.one (.int .i64)]
def F17_b : List (List SC) := []
def F17_m (g : Int → ((List ByteArray) → Option Res) → Option Res) (cf : CallF) : CallF := fun f args lent κ => match Nat.beq f 17 with
  | true => match okC F17_s args && okB F17_b lent with
    | true => g (intOf (nth args 0)) (fun x => κ ((.list .str x .no, []) : Res))
    | false => cf f args lent κ
  | false => cf f args lent κ
theorem F17_d (k : Nat) (h : ∀ (a0 : Int) (κ : Res → Option Res), (ev Try.prog cfg k).call 17 [.int .i64 a0] [] κ = F17 k a0 (fun x => κ ((.list .str x .no, []) : Res))) : F17_m (F17 k) (ev Try.prog cfg k).call = (ev Try.prog cfg k).call := by
  funext f args lent κ
  unfold F17_m
  split
  · rename_i hp
    split
    · rename_i hs
      rw [Bool.and_eq_true] at hs
      have e : mkC F17_s 0 args = [.int .i64 (intOf (nth args 0))] := by kernel_rfl
      have e' : mkB F17_b 0 lent = [] := by kernel_rfl
      obtain rfl := Nat.eq_of_beq_eq_true hp
      exact (h (intOf (nth args 0)) κ).symm.trans (cong2 (fun a l => (ev Try.prog cfg k).call 17 a l κ) (e.symm.trans (okC_eq hs.1).symm) (e'.symm.trans (okB_eq hs.2).symm))
    · rfl
  · rfl
theorem F17_k  (cf : CallF) (lf : LoopF) (a0 : Int) (κ : Res → Option Res) : evFn Try.prog cfg cf lf 17 [.int .i64 a0] [] κ = F17_B  a0 (fun x => κ ((.list .str x .no, []) : Res)) := by
  kernel_rfl
theorem F17_ev : ∀ (k : Nat) (a0 : Int) (κ : Res → Option Res), (ev Try.prog cfg k).call 17 [.int .i64 a0] [] κ = F17 k a0 (fun x => κ ((.list .str x .no, []) : Res)) := by
  intro k
  induction k with
  | zero => intros; rfl
  | succ k ih =>
    intro a0 κ
    refine (ev_call' Try.prog cfg k 17 0 _ _ κ (by rfl)).trans ?_
    skip
    exact F17_k  _ _ a0 κ
def F26_B  (a0 : ByteArray) (a1 : ByteArray) (κ : T7 → Option Res) : Option Res :=
  chk7 (κ ((2 : Int), (((0 : Int), ((0 : Int), ((⟨#[]⟩ : ByteArray), false))), (a0, a1))))
/-- lamplighter/lamplighterref16.field -/
def F26 : Nat → ByteArray → ByteArray → (T7 → Option Res) → Option Res
  | 0, _, _, _ => none
  | k + 1, a0, a1, κ => F26_B  a0 a1 κ
def F26_s : List SC := [.one .str, .one .str]
def F26_b : List (List SC) := []
def F26_m (g : ByteArray → ByteArray → (T7 → Option Res) → Option Res) (cf : CallF) : CallF := fun f args lent κ => match Nat.beq f 26 with
  | true => match okC F26_s args && okB F26_b lent with
    | true => g (stringOf (nth args 0)) (stringOf (nth args 1)) (fun x => κ ((.agg [.int .i64 x.1, .int .i64 x.2.1.1, .int .i64 x.2.1.2.1, .str x.2.1.2.2.1, .bool x.2.1.2.2.2, .str x.2.2.1, .str x.2.2.2], []) : Res))
    | false => cf f args lent κ
  | false => cf f args lent κ
theorem F26_d (k : Nat) (h : ∀ (a0 : ByteArray) (a1 : ByteArray) (κ : Res → Option Res), (ev Try.prog cfg k).call 26 [.str a0, .str a1] [] κ = F26 k a0 a1 (fun x => κ ((.agg [.int .i64 x.1, .int .i64 x.2.1.1, .int .i64 x.2.1.2.1, .str x.2.1.2.2.1, .bool x.2.1.2.2.2, .str x.2.2.1, .str x.2.2.2], []) : Res))) : F26_m (F26 k) (ev Try.prog cfg k).call = (ev Try.prog cfg k).call := by
  funext f args lent κ
  unfold F26_m
  split
  · rename_i hp
    split
    · rename_i hs
      rw [Bool.and_eq_true] at hs
      have e : mkC F26_s 0 args = [.str (stringOf (nth args 0)), .str (stringOf (nth args 1))] := by kernel_rfl
      have e' : mkB F26_b 0 lent = [] := by kernel_rfl
      obtain rfl := Nat.eq_of_beq_eq_true hp
      exact (h (stringOf (nth args 0)) (stringOf (nth args 1)) κ).symm.trans (cong2 (fun a l => (ev Try.prog cfg k).call 26 a l κ) (e.symm.trans (okC_eq hs.1).symm) (e'.symm.trans (okB_eq hs.2).symm))
    · rfl
  · rfl
theorem F26_k  (cf : CallF) (lf : LoopF) (a0 : ByteArray) (a1 : ByteArray) (κ : Res → Option Res) : evFn Try.prog cfg cf lf 26 [.str a0, .str a1] [] κ = F26_B  a0 a1 (fun x => κ ((.agg [.int .i64 x.1, .int .i64 x.2.1.1, .int .i64 x.2.1.2.1, .str x.2.1.2.2.1, .bool x.2.1.2.2.2, .str x.2.2.1, .str x.2.2.2], []) : Res)) := by
  kernel_rfl
theorem F26_ev : ∀ (k : Nat) (a0 : ByteArray) (a1 : ByteArray) (κ : Res → Option Res), (ev Try.prog cfg k).call 26 [.str a0, .str a1] [] κ = F26 k a0 a1 (fun x => κ ((.agg [.int .i64 x.1, .int .i64 x.2.1.1, .int .i64 x.2.1.2.1, .str x.2.1.2.2.1, .bool x.2.1.2.2.2, .str x.2.2.1, .str x.2.2.2], []) : Res)) := by
  intro k
  induction k with
  | zero => intros; rfl
  | succ k ih =>
    intro a0 a1 κ
    refine (ev_call' Try.prog cfg k 26 0 _ _ κ (by rfl)).trans ?_
    skip
    exact F26_k  _ _ a0 a1 κ
def F27_B  (a0 : Int) (κ : T7 → Option Res) : Option Res :=
  chk8 (chk1 (κ ((1 : Int), (((1 : Int), (a0, ((⟨#[]⟩ : ByteArray), false))), ((⟨#[]⟩ : ByteArray), (⟨#[]⟩ : ByteArray))))))
/-- lamplighter/lamplighterref16.num -/
def F27 : Nat → Int → (T7 → Option Res) → Option Res
  | 0, _, _ => none
  | k + 1, a0, κ => F27_B  a0 κ
def F27_s : List SC := [.one (.int .i64)]
def F27_b : List (List SC) := []
def F27_m (g : Int → (T7 → Option Res) → Option Res) (cf : CallF) : CallF := fun f args lent κ => match Nat.beq f 27 with
  | true => match okC F27_s args && okB F27_b lent with
    | true => g (intOf (nth args 0)) (fun x => κ ((.agg [.int .i64 x.1, .int .i64 x.2.1.1, .int .i64 x.2.1.2.1, .str x.2.1.2.2.1, .bool x.2.1.2.2.2, .str x.2.2.1, .str x.2.2.2], []) : Res))
    | false => cf f args lent κ
  | false => cf f args lent κ
theorem F27_d (k : Nat) (h : ∀ (a0 : Int) (κ : Res → Option Res), (ev Try.prog cfg k).call 27 [.int .i64 a0] [] κ = F27 k a0 (fun x => κ ((.agg [.int .i64 x.1, .int .i64 x.2.1.1, .int .i64 x.2.1.2.1, .str x.2.1.2.2.1, .bool x.2.1.2.2.2, .str x.2.2.1, .str x.2.2.2], []) : Res))) : F27_m (F27 k) (ev Try.prog cfg k).call = (ev Try.prog cfg k).call := by
  funext f args lent κ
  unfold F27_m
  split
  · rename_i hp
    split
    · rename_i hs
      rw [Bool.and_eq_true] at hs
      have e : mkC F27_s 0 args = [.int .i64 (intOf (nth args 0))] := by kernel_rfl
      have e' : mkB F27_b 0 lent = [] := by kernel_rfl
      obtain rfl := Nat.eq_of_beq_eq_true hp
      exact (h (intOf (nth args 0)) κ).symm.trans (cong2 (fun a l => (ev Try.prog cfg k).call 27 a l κ) (e.symm.trans (okC_eq hs.1).symm) (e'.symm.trans (okB_eq hs.2).symm))
    · rfl
  · rfl
theorem F27_k  (cf : CallF) (lf : LoopF) (a0 : Int) (κ : Res → Option Res) : evFn Try.prog cfg cf lf 27 [.int .i64 a0] [] κ = F27_B  a0 (fun x => κ ((.agg [.int .i64 x.1, .int .i64 x.2.1.1, .int .i64 x.2.1.2.1, .str x.2.1.2.2.1, .bool x.2.1.2.2.2, .str x.2.2.1, .str x.2.2.2], []) : Res)) := by
  kernel_rfl
theorem F27_ev : ∀ (k : Nat) (a0 : Int) (κ : Res → Option Res), (ev Try.prog cfg k).call 27 [.int .i64 a0] [] κ = F27 k a0 (fun x => κ ((.agg [.int .i64 x.1, .int .i64 x.2.1.1, .int .i64 x.2.1.2.1, .str x.2.1.2.2.1, .bool x.2.1.2.2.2, .str x.2.2.1, .str x.2.2.2], []) : Res)) := by
  intro k
  induction k with
  | zero => intros; rfl
  | succ k ih =>
    intro a0 κ
    refine (ev_call' Try.prog cfg k 27 0 _ _ κ (by rfl)).trans ?_
    skip
    exact F27_k  _ _ a0 κ
def F18_B (gF26 : tF26) (gF27 : tF27) (a0 : Int) (a1 : ByteArray) (a2 : ByteArray) (κ : T8 → Option Res) : Option Res :=
  chk8 (chk4 (if ((Int.tmod a0 (7 : Int)) == (0 : Int)) = true then
     (κ ([] : List T7))
    else
     (chk1 (if ((Int.tmod a0 (7 : Int)) == (1 : Int)) = true then
       (chk1 (gF26 a1 (⟨#[120]⟩ : ByteArray) fun x1 =>
        chk2 (gF27 (bits .and .i64 (Int.fdiv a0 (2 ^ min ((4 : Int)).toNat (IntKind.bits .i64))) (3 : Int)) fun x2 =>
         chk5 (κ ([x1, x2, ((IntKind.wrap .i64 ((7 : Int) + (Int.tmod (Int.fdiv a0 (2 ^ min ((6 : Int)).toNat (IntKind.bits .i64))) (6 : Int)))), (((0 : Int), ((0 : Int), ((⟨#[]⟩ : ByteArray), false))), ((⟨#[]⟩ : ByteArray), (⟨#[]⟩ : ByteArray))))] : List T7)))))
      else
       (chk1 (if ((Int.tmod a0 (7 : Int)) == (2 : Int)) = true then
         (chk1 (gF26 a1 (⟨#[115]⟩ : ByteArray) fun x3 =>
          chk8 (chk8 (κ ([x3, ((1 : Int), (((2 : Int), ((0 : Int), ((⟨#[117]⟩ : ByteArray), false))), ((⟨#[]⟩ : ByteArray), (⟨#[]⟩ : ByteArray)))), ((IntKind.wrap .i64 ((7 : Int) + (bits .and .i64 (Int.fdiv a0 (2 ^ min ((6 : Int)).toNat (IntKind.bits .i64))) (1 : Int)))), (((0 : Int), ((0 : Int), ((⟨#[]⟩ : ByteArray), false))), ((⟨#[]⟩ : ByteArray), (⟨#[]⟩ : ByteArray))))] : List T7)))))
        else
         (chk1 (if ((Int.tmod a0 (7 : Int)) == (3 : Int)) = true then
           (chk1 (gF26 a1 (⟨#[120]⟩ : ByteArray) fun x4 =>
            chk2 (gF27 (bits .and .i64 (Int.fdiv a0 (2 ^ min ((4 : Int)).toNat (IntKind.bits .i64))) (3 : Int)) fun x5 =>
             chk8 (κ ([x4, x5, ((IntKind.wrap .i64 ((7 : Int) + (Int.tmod (Int.fdiv a0 (2 ^ min ((6 : Int)).toNat (IntKind.bits .i64))) (6 : Int)))), (((0 : Int), ((0 : Int), ((⟨#[]⟩ : ByteArray), false))), ((⟨#[]⟩ : ByteArray), (⟨#[]⟩ : ByteArray)))), ((13 : Int), (((0 : Int), ((0 : Int), ((⟨#[]⟩ : ByteArray), false))), ((⟨#[]⟩ : ByteArray), (⟨#[]⟩ : ByteArray))))] : List T7)))))
          else
           (chk1 (if ((Int.tmod a0 (7 : Int)) == (4 : Int)) = true then
             (chk1 (gF26 a1 (⟨#[120]⟩ : ByteArray) fun x6 =>
              chk2 (gF27 (1 : Int) fun x7 =>
               chk4 (gF26 a2 (⟨#[120]⟩ : ByteArray) fun x8 =>
                chk7 (κ ([x6, x7, ((4 : Int), (((0 : Int), ((0 : Int), ((⟨#[]⟩ : ByteArray), false))), ((⟨#[]⟩ : ByteArray), (⟨#[]⟩ : ByteArray)))), x8, ((IntKind.wrap .i64 ((7 : Int) + (Int.tmod (Int.fdiv a0 (2 ^ min ((6 : Int)).toNat (IntKind.bits .i64))) (6 : Int)))), (((0 : Int), ((0 : Int), ((⟨#[]⟩ : ByteArray), false))), ((⟨#[]⟩ : ByteArray), (⟨#[]⟩ : ByteArray))))] : List T7))))))
            else
             (chk1 (if ((Int.tmod a0 (7 : Int)) == (5 : Int)) = true then
               (chk1 (gF26 a1 (⟨#[115]⟩ : ByteArray) fun x9 =>
                chk2 (gF26 a2 (⟨#[115]⟩ : ByteArray) fun x10 =>
                 chk4 (gF26 a1 (⟨#[120]⟩ : ByteArray) fun x11 =>
                  chk2 (gF27 (bits .and .i64 (Int.fdiv a0 (2 ^ min ((4 : Int)).toNat (IntKind.bits .i64))) (3 : Int)) fun x12 =>
                   chk8 (chk3 (κ ([x9, x10, ((7 : Int), (((0 : Int), ((0 : Int), ((⟨#[]⟩ : ByteArray), false))), ((⟨#[]⟩ : ByteArray), (⟨#[]⟩ : ByteArray)))), x11, x12, ((IntKind.wrap .i64 ((7 : Int) + (Int.tmod (Int.fdiv a0 (2 ^ min ((6 : Int)).toNat (IntKind.bits .i64))) (6 : Int)))), (((0 : Int), ((0 : Int), ((⟨#[]⟩ : ByteArray), false))), ((⟨#[]⟩ : ByteArray), (⟨#[]⟩ : ByteArray)))), ((15 : Int), (((0 : Int), ((0 : Int), ((⟨#[]⟩ : ByteArray), false))), ((⟨#[]⟩ : ByteArray), (⟨#[]⟩ : ByteArray))))] : List T7))))))))
              else
               (chk1 (gF26 a1 (⟨#[120]⟩ : ByteArray) fun x13 =>
                chk2 (gF26 a2 (⟨#[120]⟩ : ByteArray) fun x14 =>
                 chk2 (gF26 a2 (⟨#[115]⟩ : ByteArray) fun x15 =>
                  chk8 (chk8 (chk3 (κ ([x13, x14, ((IntKind.wrap .i64 ((7 : Int) + (Int.tmod (Int.fdiv a0 (2 ^ min ((6 : Int)).toNat (IntKind.bits .i64))) (6 : Int)))), (((0 : Int), ((0 : Int), ((⟨#[]⟩ : ByteArray), false))), ((⟨#[]⟩ : ByteArray), (⟨#[]⟩ : ByteArray)))), x15, ((1 : Int), (((2 : Int), ((0 : Int), ((⟨#[118]⟩ : ByteArray), false))), ((⟨#[]⟩ : ByteArray), (⟨#[]⟩ : ByteArray)))), ((8 : Int), (((0 : Int), ((0 : Int), ((⟨#[]⟩ : ByteArray), false))), ((⟨#[]⟩ : ByteArray), (⟨#[]⟩ : ByteArray)))), ((14 : Int), (((0 : Int), ((0 : Int), ((⟨#[]⟩ : ByteArray), false))), ((⟨#[]⟩ : ByteArray), (⟨#[]⟩ : ByteArray))))] : List T7))))))))))))))))))))
/-- lamplighter/lamplighterref16.Pred -/
def F18 : Nat → Int → ByteArray → ByteArray → (T8 → Option Res) → Option Res
  | 0, _, _, _, _ => none
  | k + 1, a0, a1, a2, κ => F18_B (F26 k) (F27 k) a0 a1 a2 κ
def F18_s : List SC := [.one (.int .i64), .one .str, .one .str]
def F18_b : List (List SC) := []
def F18_m (g : Int → ByteArray → ByteArray → (T8 → Option Res) → Option Res) (cf : CallF) : CallF := fun f args lent κ => match Nat.beq f 18 with
  | true => match okC F18_s args && okB F18_b lent with
    | true => g (intOf (nth args 0)) (stringOf (nth args 1)) (stringOf (nth args 2)) (fun x => κ ((.list (.pair (.int .i64) (.pair (.pair (.int .i64) (.pair (.int .i64) (.pair .str .bool))) (.pair .str .str))) x (.own false false), []) : Res))
    | false => cf f args lent κ
  | false => cf f args lent κ
theorem F18_d (k : Nat) (h : ∀ (a0 : Int) (a1 : ByteArray) (a2 : ByteArray) (κ : Res → Option Res), (ev Try.prog cfg k).call 18 [.int .i64 a0, .str a1, .str a2] [] κ = F18 k a0 a1 a2 (fun x => κ ((.list (.pair (.int .i64) (.pair (.pair (.int .i64) (.pair (.int .i64) (.pair .str .bool))) (.pair .str .str))) x (.own false false), []) : Res))) : F18_m (F18 k) (ev Try.prog cfg k).call = (ev Try.prog cfg k).call := by
  funext f args lent κ
  unfold F18_m
  split
  · rename_i hp
    split
    · rename_i hs
      rw [Bool.and_eq_true] at hs
      have e : mkC F18_s 0 args = [.int .i64 (intOf (nth args 0)), .str (stringOf (nth args 1)), .str (stringOf (nth args 2))] := by kernel_rfl
      have e' : mkB F18_b 0 lent = [] := by kernel_rfl
      obtain rfl := Nat.eq_of_beq_eq_true hp
      exact (h (intOf (nth args 0)) (stringOf (nth args 1)) (stringOf (nth args 2)) κ).symm.trans (cong2 (fun a l => (ev Try.prog cfg k).call 18 a l κ) (e.symm.trans (okC_eq hs.1).symm) (e'.symm.trans (okB_eq hs.2).symm))
    · rfl
  · rfl
theorem F18_k (gF26 : tF26) (gF27 : tF27) (cf : CallF) (lf : LoopF) (a0 : Int) (a1 : ByteArray) (a2 : ByteArray) (κ : Res → Option Res) : evFn Try.prog cfg (F26_m gF26 (F27_m gF27 cf)) lf 18 [.int .i64 a0, .str a1, .str a2] [] κ = F18_B gF26 gF27 a0 a1 a2 (fun x => κ ((.list (.pair (.int .i64) (.pair (.pair (.int .i64) (.pair (.int .i64) (.pair .str .bool))) (.pair .str .str))) x (.own false false), []) : Res)) := by
  kernel_rfl
theorem F18_ev : ∀ (k : Nat) (a0 : Int) (a1 : ByteArray) (a2 : ByteArray) (κ : Res → Option Res), (ev Try.prog cfg k).call 18 [.int .i64 a0, .str a1, .str a2] [] κ = F18 k a0 a1 a2 (fun x => κ ((.list (.pair (.int .i64) (.pair (.pair (.int .i64) (.pair (.int .i64) (.pair .str .bool))) (.pair .str .str))) x (.own false false), []) : Res)) := by
  intro k
  induction k with
  | zero => intros; rfl
  | succ k ih =>
    intro a0 a1 a2 κ
    refine (ev_call' Try.prog cfg k 18 0 _ _ κ (by rfl)).trans ?_
    rw [← F26_d k (F26_ev k), ← F27_d k (F27_ev k)]
    exact F18_k _ _ _ _ a0 a1 a2 κ
def L10_0_B (gF16 : tF16) (gF17 : tF17) (gF18 : tF18) (gL10_0 : tL10_0) (κ : T15 → Option Res) (p0 : (List Int)) (p1 : Int) (p2 : Int) (p3 : T14) (p4 : Int) (p5 : Int) (K : Int × T14 → Option Res) : Option Res :=
  chk1 (if decide (p2 < p1) = true then
    (chk4 (if decide ((IntKind.wrap .i64 (p2 + (1 : Int))) < (p0.length : Int)) = true then
      (chk1 (if (true && (decide ((0 : Int) ≤ (IntKind.wrap .i64 (p2 + (1 : Int)))) && decide ((IntKind.wrap .i64 (p2 + (1 : Int))) < (p0.length : Int)))) = true then
        (chk2 (gF16  fun x1 =>
         chk1 (if (true && (decide ((0 : Int) ≤ p2) && decide (p2 < (x1.length : Int)))) = true then
           (chk1 (gF17 (bits .and .i64 (p0.getD (IntKind.wrap .i64 (p2 + (1 : Int))).toNat (0 : Int)) (16777215 : Int)) fun x2 =>
            chk8 (chk2 (if decide (p2 > (0 : Int)) = true then
               (chk2 (if decide (p2 < (IntKind.wrap .i64 (p1 - (1 : Int)))) = true then
                 (chk5 (if (!((bits .and .i64 (Int.fdiv (bits .and .i64 (p0.getD (IntKind.wrap .i64 (p2 + (1 : Int))).toNat (0 : Int)) (16777215 : Int)) (2 ^ min ((4 : Int)).toNat (IntKind.bits .i64))) (3 : Int)) == (0 : Int))) = true then
                   (chk3 (if ((bits .and .i64 (Int.fdiv (bits .and .i64 (p0.getD (IntKind.wrap .i64 (p2 + (1 : Int))).toNat (0 : Int)) (16777215 : Int)) (2 ^ min ((6 : Int)).toNat (IntKind.bits .i64))) (3 : Int)) == (0 : Int)) = true then
                     (chk8 (chk3 (if (p2 == (0 : Int)) = true then
                        (chk3 (gF18 (Int.fdiv (bits .and .i64 (p0.getD (IntKind.wrap .i64 (p2 + (1 : Int))).toNat (0 : Int)) (16777215 : Int)) (2 ^ min ((10 : Int)).toNat (IntKind.bits .i64))) (x1.getD p2.toNat (⟨#[]⟩ : ByteArray)) (x1.getD p2.toNat (⟨#[]⟩ : ByteArray)) fun x3 =>
                         chk6 (if decide ((p3.length + ([((x1.getD p2.toNat (⟨#[]⟩ : ByteArray)), (x2, (((bits .and .i64 (Int.fdiv (bits .and .i64 (p0.getD (IntKind.wrap .i64 (p2 + (1 : Int))).toNat (0 : Int)) (16777215 : Int)) (2 ^ min ((4 : Int)).toNat (IntKind.bits .i64))) (3 : Int)) == (0 : Int)), ((IntKind.wrap .i64 ((bits .and .i64 (Int.fdiv (bits .and .i64 (p0.getD (IntKind.wrap .i64 (p2 + (1 : Int))).toNat (0 : Int)) (16777215 : Int)) (2 ^ min ((8 : Int)).toNat (IntKind.bits .i64))) (1 : Int)) + (1 : Int))), ((IntKind.wrap .i64 ((IntKind.wrap .i64 ((bits .and .i64 (Int.fdiv (bits .and .i64 (p0.getD (IntKind.wrap .i64 (p2 + (1 : Int))).toNat (0 : Int)) (16777215 : Int)) (2 ^ min ((8 : Int)).toNat (IntKind.bits .i64))) (1 : Int)) + (1 : Int))) + (bits .and .i64 (Int.fdiv (bits .and .i64 (p0.getD (IntKind.wrap .i64 (p2 + (1 : Int))).toNat (0 : Int)) (16777215 : Int)) (2 ^ min ((9 : Int)).toNat (IntKind.bits .i64))) (1 : Int)))), x3)))))] : List T13).length) * 88 ≤ 140737488355328) = true then chk3 (gL10_0 p0 p1 (IntKind.wrap .i64 (p2 + (1 : Int))) (p3 ++ ([((x1.getD p2.toNat (⟨#[]⟩ : ByteArray)), (x2, (((bits .and .i64 (Int.fdiv (bits .and .i64 (p0.getD (IntKind.wrap .i64 (p2 + (1 : Int))).toNat (0 : Int)) (16777215 : Int)) (2 ^ min ((4 : Int)).toNat (IntKind.bits .i64))) (3 : Int)) == (0 : Int)), ((IntKind.wrap .i64 ((bits .and .i64 (Int.fdiv (bits .and .i64 (p0.getD (IntKind.wrap .i64 (p2 + (1 : Int))).toNat (0 : Int)) (16777215 : Int)) (2 ^ min ((8 : Int)).toNat (IntKind.bits .i64))) (1 : Int)) + (1 : Int))), ((IntKind.wrap .i64 ((IntKind.wrap .i64 ((bits .and .i64 (Int.fdiv (bits .and .i64 (p0.getD (IntKind.wrap .i64 (p2 + (1 : Int))).toNat (0 : Int)) (16777215 : Int)) (2 ^ min ((8 : Int)).toNat (IntKind.bits .i64))) (1 : Int)) + (1 : Int))) + (bits .and .i64 (Int.fdiv (bits .and .i64 (p0.getD (IntKind.wrap .i64 (p2 + (1 : Int))).toNat (0 : Int)) (16777215 : Int)) (2 ^ min ((9 : Int)).toNat (IntKind.bits .i64))) (1 : Int)))), x3)))))] : List T13)) p4 p5 K) else none)))
                       else
                        (if (true && (true && decide ((0 : Int) < (p3.length : Int)))) = true then
                         (if decide ((0 : Int).toNat < p3.length) = true then
                          (chk1 (if (((((((p3.getD ((0 : Int).toNat) ((⟨#[]⟩ : ByteArray), (([] : List ByteArray), (false, ((0 : Int), ((0 : Int), ([] : List T7))))))).2).2).2).2).1) != (1 : Int)) = true then
                            (chk2 (gF18 (Int.fdiv (bits .and .i64 (p0.getD (IntKind.wrap .i64 (p2 + (1 : Int))).toNat (0 : Int)) (16777215 : Int)) (2 ^ min ((10 : Int)).toNat (IntKind.bits .i64))) (x1.getD p2.toNat (⟨#[]⟩ : ByteArray)) (x1.getD p2.toNat (⟨#[]⟩ : ByteArray)) fun x4 =>
                             chk6 (if decide ((p3.length + ([((x1.getD p2.toNat (⟨#[]⟩ : ByteArray)), (x2, (((bits .and .i64 (Int.fdiv (bits .and .i64 (p0.getD (IntKind.wrap .i64 (p2 + (1 : Int))).toNat (0 : Int)) (16777215 : Int)) (2 ^ min ((4 : Int)).toNat (IntKind.bits .i64))) (3 : Int)) == (0 : Int)), ((IntKind.wrap .i64 ((bits .and .i64 (Int.fdiv (bits .and .i64 (p0.getD (IntKind.wrap .i64 (p2 + (1 : Int))).toNat (0 : Int)) (16777215 : Int)) (2 ^ min ((8 : Int)).toNat (IntKind.bits .i64))) (1 : Int)) + (1 : Int))), ((IntKind.wrap .i64 ((IntKind.wrap .i64 ((bits .and .i64 (Int.fdiv (bits .and .i64 (p0.getD (IntKind.wrap .i64 (p2 + (1 : Int))).toNat (0 : Int)) (16777215 : Int)) (2 ^ min ((8 : Int)).toNat (IntKind.bits .i64))) (1 : Int)) + (1 : Int))) + (bits .and .i64 (Int.fdiv (bits .and .i64 (p0.getD (IntKind.wrap .i64 (p2 + (1 : Int))).toNat (0 : Int)) (16777215 : Int)) (2 ^ min ((9 : Int)).toNat (IntKind.bits .i64))) (1 : Int)))), x4)))))] : List T13).length) * 88 ≤ 140737488355328) = true then chk3 (gL10_0 p0 p1 (IntKind.wrap .i64 (p2 + (1 : Int))) (p3 ++ ([((x1.getD p2.toNat (⟨#[]⟩ : ByteArray)), (x2, (((bits .and .i64 (Int.fdiv (bits .and .i64 (p0.getD (IntKind.wrap .i64 (p2 + (1 : Int))).toNat (0 : Int)) (16777215 : Int)) (2 ^ min ((4 : Int)).toNat (IntKind.bits .i64))) (3 : Int)) == (0 : Int)), ((IntKind.wrap .i64 ((bits .and .i64 (Int.fdiv (bits .and .i64 (p0.getD (IntKind.wrap .i64 (p2 + (1 : Int))).toNat (0 : Int)) (16777215 : Int)) (2 ^ min ((8 : Int)).toNat (IntKind.bits .i64))) (1 : Int)) + (1 : Int))), ((IntKind.wrap .i64 ((IntKind.wrap .i64 ((bits .and .i64 (Int.fdiv (bits .and .i64 (p0.getD (IntKind.wrap .i64 (p2 + (1 : Int))).toNat (0 : Int)) (16777215 : Int)) (2 ^ min ((8 : Int)).toNat (IntKind.bits .i64))) (1 : Int)) + (1 : Int))) + (bits .and .i64 (Int.fdiv (bits .and .i64 (p0.getD (IntKind.wrap .i64 (p2 + (1 : Int))).toNat (0 : Int)) (16777215 : Int)) (2 ^ min ((9 : Int)).toNat (IntKind.bits .i64))) (1 : Int)))), x4)))))] : List T13)) p4 p5 K) else none)))
                           else
                            (chk2 (gF18 (Int.fdiv (bits .and .i64 (p0.getD (IntKind.wrap .i64 (p2 + (1 : Int))).toNat (0 : Int)) (16777215 : Int)) (2 ^ min ((10 : Int)).toNat (IntKind.bits .i64))) (x1.getD p2.toNat (⟨#[]⟩ : ByteArray)) (⟨#[97]⟩ : ByteArray) fun x5 =>
                             chk6 (if decide ((p3.length + ([((x1.getD p2.toNat (⟨#[]⟩ : ByteArray)), (x2, (((bits .and .i64 (Int.fdiv (bits .and .i64 (p0.getD (IntKind.wrap .i64 (p2 + (1 : Int))).toNat (0 : Int)) (16777215 : Int)) (2 ^ min ((4 : Int)).toNat (IntKind.bits .i64))) (3 : Int)) == (0 : Int)), ((IntKind.wrap .i64 ((bits .and .i64 (Int.fdiv (bits .and .i64 (p0.getD (IntKind.wrap .i64 (p2 + (1 : Int))).toNat (0 : Int)) (16777215 : Int)) (2 ^ min ((8 : Int)).toNat (IntKind.bits .i64))) (1 : Int)) + (1 : Int))), ((IntKind.wrap .i64 ((IntKind.wrap .i64 ((bits .and .i64 (Int.fdiv (bits .and .i64 (p0.getD (IntKind.wrap .i64 (p2 + (1 : Int))).toNat (0 : Int)) (16777215 : Int)) (2 ^ min ((8 : Int)).toNat (IntKind.bits .i64))) (1 : Int)) + (1 : Int))) + (bits .and .i64 (Int.fdiv (bits .and .i64 (p0.getD (IntKind.wrap .i64 (p2 + (1 : Int))).toNat (0 : Int)) (16777215 : Int)) (2 ^ min ((9 : Int)).toNat (IntKind.bits .i64))) (1 : Int)))), x5)))))] : List T13).length) * 88 ≤ 140737488355328) = true then chk3 (gL10_0 p0 p1 (IntKind.wrap .i64 (p2 + (1 : Int))) (p3 ++ ([((x1.getD p2.toNat (⟨#[]⟩ : ByteArray)), (x2, (((bits .and .i64 (Int.fdiv (bits .and .i64 (p0.getD (IntKind.wrap .i64 (p2 + (1 : Int))).toNat (0 : Int)) (16777215 : Int)) (2 ^ min ((4 : Int)).toNat (IntKind.bits .i64))) (3 : Int)) == (0 : Int)), ((IntKind.wrap .i64 ((bits .and .i64 (Int.fdiv (bits .and .i64 (p0.getD (IntKind.wrap .i64 (p2 + (1 : Int))).toNat (0 : Int)) (16777215 : Int)) (2 ^ min ((8 : Int)).toNat (IntKind.bits .i64))) (1 : Int)) + (1 : Int))), ((IntKind.wrap .i64 ((IntKind.wrap .i64 ((bits .and .i64 (Int.fdiv (bits .and .i64 (p0.getD (IntKind.wrap .i64 (p2 + (1 : Int))).toNat (0 : Int)) (16777215 : Int)) (2 ^ min ((8 : Int)).toNat (IntKind.bits .i64))) (1 : Int)) + (1 : Int))) + (bits .and .i64 (Int.fdiv (bits .and .i64 (p0.getD (IntKind.wrap .i64 (p2 + (1 : Int))).toNat (0 : Int)) (16777215 : Int)) (2 ^ min ((9 : Int)).toNat (IntKind.bits .i64))) (1 : Int)))), x5)))))] : List T13)) p4 p5 K) else none)))))
                         else
                          (none))
                        else
                         (none)))))
                    else
                     (chk1 (if (p2 == (0 : Int)) = true then
                       (chk3 (gF18 (Int.fdiv (bits .and .i64 (p0.getD (IntKind.wrap .i64 (p2 + (1 : Int))).toNat (0 : Int)) (16777215 : Int)) (2 ^ min ((10 : Int)).toNat (IntKind.bits .i64))) (x1.getD p2.toNat (⟨#[]⟩ : ByteArray)) (x1.getD p2.toNat (⟨#[]⟩ : ByteArray)) fun x6 =>
                        chk6 (if decide ((p3.length + ([((x1.getD p2.toNat (⟨#[]⟩ : ByteArray)), (x2, (((bits .and .i64 (Int.fdiv (bits .and .i64 (p0.getD (IntKind.wrap .i64 (p2 + (1 : Int))).toNat (0 : Int)) (16777215 : Int)) (2 ^ min ((4 : Int)).toNat (IntKind.bits .i64))) (3 : Int)) == (0 : Int)), ((1 : Int), ((1 : Int), x6)))))] : List T13).length) * 88 ≤ 140737488355328) = true then chk3 (gL10_0 p0 p1 (IntKind.wrap .i64 (p2 + (1 : Int))) (p3 ++ ([((x1.getD p2.toNat (⟨#[]⟩ : ByteArray)), (x2, (((bits .and .i64 (Int.fdiv (bits .and .i64 (p0.getD (IntKind.wrap .i64 (p2 + (1 : Int))).toNat (0 : Int)) (16777215 : Int)) (2 ^ min ((4 : Int)).toNat (IntKind.bits .i64))) (3 : Int)) == (0 : Int)), ((1 : Int), ((1 : Int), x6)))))] : List T13)) p4 p5 K) else none)))
                      else
                       (if (true && (true && decide ((0 : Int) < (p3.length : Int)))) = true then
                        (if decide ((0 : Int).toNat < p3.length) = true then
                         (chk1 (if (((((((p3.getD ((0 : Int).toNat) ((⟨#[]⟩ : ByteArray), (([] : List ByteArray), (false, ((0 : Int), ((0 : Int), ([] : List T7))))))).2).2).2).2).1) != (1 : Int)) = true then
                           (chk2 (gF18 (Int.fdiv (bits .and .i64 (p0.getD (IntKind.wrap .i64 (p2 + (1 : Int))).toNat (0 : Int)) (16777215 : Int)) (2 ^ min ((10 : Int)).toNat (IntKind.bits .i64))) (x1.getD p2.toNat (⟨#[]⟩ : ByteArray)) (x1.getD p2.toNat (⟨#[]⟩ : ByteArray)) fun x7 =>
                            chk6 (if decide ((p3.length + ([((x1.getD p2.toNat (⟨#[]⟩ : ByteArray)), (x2, (((bits .and .i64 (Int.fdiv (bits .and .i64 (p0.getD (IntKind.wrap .i64 (p2 + (1 : Int))).toNat (0 : Int)) (16777215 : Int)) (2 ^ min ((4 : Int)).toNat (IntKind.bits .i64))) (3 : Int)) == (0 : Int)), ((1 : Int), ((1 : Int), x7)))))] : List T13).length) * 88 ≤ 140737488355328) = true then chk3 (gL10_0 p0 p1 (IntKind.wrap .i64 (p2 + (1 : Int))) (p3 ++ ([((x1.getD p2.toNat (⟨#[]⟩ : ByteArray)), (x2, (((bits .and .i64 (Int.fdiv (bits .and .i64 (p0.getD (IntKind.wrap .i64 (p2 + (1 : Int))).toNat (0 : Int)) (16777215 : Int)) (2 ^ min ((4 : Int)).toNat (IntKind.bits .i64))) (3 : Int)) == (0 : Int)), ((1 : Int), ((1 : Int), x7)))))] : List T13)) p4 p5 K) else none)))
                          else
                           (chk2 (gF18 (Int.fdiv (bits .and .i64 (p0.getD (IntKind.wrap .i64 (p2 + (1 : Int))).toNat (0 : Int)) (16777215 : Int)) (2 ^ min ((10 : Int)).toNat (IntKind.bits .i64))) (x1.getD p2.toNat (⟨#[]⟩ : ByteArray)) (⟨#[97]⟩ : ByteArray) fun x8 =>
                            chk6 (if decide ((p3.length + ([((x1.getD p2.toNat (⟨#[]⟩ : ByteArray)), (x2, (((bits .and .i64 (Int.fdiv (bits .and .i64 (p0.getD (IntKind.wrap .i64 (p2 + (1 : Int))).toNat (0 : Int)) (16777215 : Int)) (2 ^ min ((4 : Int)).toNat (IntKind.bits .i64))) (3 : Int)) == (0 : Int)), ((1 : Int), ((1 : Int), x8)))))] : List T13).length) * 88 ≤ 140737488355328) = true then chk3 (gL10_0 p0 p1 (IntKind.wrap .i64 (p2 + (1 : Int))) (p3 ++ ([((x1.getD p2.toNat (⟨#[]⟩ : ByteArray)), (x2, (((bits .and .i64 (Int.fdiv (bits .and .i64 (p0.getD (IntKind.wrap .i64 (p2 + (1 : Int))).toNat (0 : Int)) (16777215 : Int)) (2 ^ min ((4 : Int)).toNat (IntKind.bits .i64))) (3 : Int)) == (0 : Int)), ((1 : Int), ((1 : Int), x8)))))] : List T13)) p4 p5 K) else none)))))
                        else
                         (none))
                       else
                        (none))))))
                  else
                   (if false = true then
                    (none)
                   else
                    (chk1 (if (p2 == (0 : Int)) = true then
                      (chk3 (gF18 (Int.fdiv (bits .and .i64 (p0.getD (IntKind.wrap .i64 (p2 + (1 : Int))).toNat (0 : Int)) (16777215 : Int)) (2 ^ min ((10 : Int)).toNat (IntKind.bits .i64))) (x1.getD p2.toNat (⟨#[]⟩ : ByteArray)) (x1.getD p2.toNat (⟨#[]⟩ : ByteArray)) fun x9 =>
                       chk6 (if decide ((p3.length + ([((x1.getD p2.toNat (⟨#[]⟩ : ByteArray)), (x2, (((bits .and .i64 (Int.fdiv (bits .and .i64 (p0.getD (IntKind.wrap .i64 (p2 + (1 : Int))).toNat (0 : Int)) (16777215 : Int)) (2 ^ min ((4 : Int)).toNat (IntKind.bits .i64))) (3 : Int)) == (0 : Int)), ((1 : Int), ((1 : Int), x9)))))] : List T13).length) * 88 ≤ 140737488355328) = true then chk3 (gL10_0 p0 p1 (IntKind.wrap .i64 (p2 + (1 : Int))) (p3 ++ ([((x1.getD p2.toNat (⟨#[]⟩ : ByteArray)), (x2, (((bits .and .i64 (Int.fdiv (bits .and .i64 (p0.getD (IntKind.wrap .i64 (p2 + (1 : Int))).toNat (0 : Int)) (16777215 : Int)) (2 ^ min ((4 : Int)).toNat (IntKind.bits .i64))) (3 : Int)) == (0 : Int)), ((1 : Int), ((1 : Int), x9)))))] : List T13)) p4 p5 K) else none)))
                     else
                      (if (true && (true && decide ((0 : Int) < (p3.length : Int)))) = true then
                       (if decide ((0 : Int).toNat < p3.length) = true then
                        (chk1 (if (((((((p3.getD ((0 : Int).toNat) ((⟨#[]⟩ : ByteArray), (([] : List ByteArray), (false, ((0 : Int), ((0 : Int), ([] : List T7))))))).2).2).2).2).1) != (1 : Int)) = true then
                          (chk2 (gF18 (Int.fdiv (bits .and .i64 (p0.getD (IntKind.wrap .i64 (p2 + (1 : Int))).toNat (0 : Int)) (16777215 : Int)) (2 ^ min ((10 : Int)).toNat (IntKind.bits .i64))) (x1.getD p2.toNat (⟨#[]⟩ : ByteArray)) (x1.getD p2.toNat (⟨#[]⟩ : ByteArray)) fun x10 =>
                           chk6 (if decide ((p3.length + ([((x1.getD p2.toNat (⟨#[]⟩ : ByteArray)), (x2, (((bits .and .i64 (Int.fdiv (bits .and .i64 (p0.getD (IntKind.wrap .i64 (p2 + (1 : Int))).toNat (0 : Int)) (16777215 : Int)) (2 ^ min ((4 : Int)).toNat (IntKind.bits .i64))) (3 : Int)) == (0 : Int)), ((1 : Int), ((1 : Int), x10)))))] : List T13).length) * 88 ≤ 140737488355328) = true then chk3 (gL10_0 p0 p1 (IntKind.wrap .i64 (p2 + (1 : Int))) (p3 ++ ([((x1.getD p2.toNat (⟨#[]⟩ : ByteArray)), (x2, (((bits .and .i64 (Int.fdiv (bits .and .i64 (p0.getD (IntKind.wrap .i64 (p2 + (1 : Int))).toNat (0 : Int)) (16777215 : Int)) (2 ^ min ((4 : Int)).toNat (IntKind.bits .i64))) (3 : Int)) == (0 : Int)), ((1 : Int), ((1 : Int), x10)))))] : List T13)) p4 p5 K) else none)))
                         else
                          (chk2 (gF18 (Int.fdiv (bits .and .i64 (p0.getD (IntKind.wrap .i64 (p2 + (1 : Int))).toNat (0 : Int)) (16777215 : Int)) (2 ^ min ((10 : Int)).toNat (IntKind.bits .i64))) (x1.getD p2.toNat (⟨#[]⟩ : ByteArray)) (⟨#[97]⟩ : ByteArray) fun x11 =>
                           chk6 (if decide ((p3.length + ([((x1.getD p2.toNat (⟨#[]⟩ : ByteArray)), (x2, (((bits .and .i64 (Int.fdiv (bits .and .i64 (p0.getD (IntKind.wrap .i64 (p2 + (1 : Int))).toNat (0 : Int)) (16777215 : Int)) (2 ^ min ((4 : Int)).toNat (IntKind.bits .i64))) (3 : Int)) == (0 : Int)), ((1 : Int), ((1 : Int), x11)))))] : List T13).length) * 88 ≤ 140737488355328) = true then chk3 (gL10_0 p0 p1 (IntKind.wrap .i64 (p2 + (1 : Int))) (p3 ++ ([((x1.getD p2.toNat (⟨#[]⟩ : ByteArray)), (x2, (((bits .and .i64 (Int.fdiv (bits .and .i64 (p0.getD (IntKind.wrap .i64 (p2 + (1 : Int))).toNat (0 : Int)) (16777215 : Int)) (2 ^ min ((4 : Int)).toNat (IntKind.bits .i64))) (3 : Int)) == (0 : Int)), ((1 : Int), ((1 : Int), x11)))))] : List T13)) p4 p5 K) else none)))))
                       else
                        (none))
                      else
                       (none)))))))
                else
                 (chk6 (if ((bits .and .i64 (Int.fdiv (bits .and .i64 (p0.getD (IntKind.wrap .i64 (p2 + (1 : Int))).toNat (0 : Int)) (16777215 : Int)) (2 ^ min ((6 : Int)).toNat (IntKind.bits .i64))) (3 : Int)) == (0 : Int)) = true then
                   (chk8 (chk3 (if (p2 == (0 : Int)) = true then
                      (chk3 (gF18 (Int.fdiv (bits .and .i64 (p0.getD (IntKind.wrap .i64 (p2 + (1 : Int))).toNat (0 : Int)) (16777215 : Int)) (2 ^ min ((10 : Int)).toNat (IntKind.bits .i64))) (x1.getD p2.toNat (⟨#[]⟩ : ByteArray)) (x1.getD p2.toNat (⟨#[]⟩ : ByteArray)) fun x12 =>
                       chk6 (if decide ((p3.length + ([((x1.getD p2.toNat (⟨#[]⟩ : ByteArray)), (x2, (false, ((IntKind.wrap .i64 ((bits .and .i64 (Int.fdiv (bits .and .i64 (p0.getD (IntKind.wrap .i64 (p2 + (1 : Int))).toNat (0 : Int)) (16777215 : Int)) (2 ^ min ((8 : Int)).toNat (IntKind.bits .i64))) (1 : Int)) + (1 : Int))), ((IntKind.wrap .i64 ((IntKind.wrap .i64 ((bits .and .i64 (Int.fdiv (bits .and .i64 (p0.getD (IntKind.wrap .i64 (p2 + (1 : Int))).toNat (0 : Int)) (16777215 : Int)) (2 ^ min ((8 : Int)).toNat (IntKind.bits .i64))) (1 : Int)) + (1 : Int))) + (bits .and .i64 (Int.fdiv (bits .and .i64 (p0.getD (IntKind.wrap .i64 (p2 + (1 : Int))).toNat (0 : Int)) (16777215 : Int)) (2 ^ min ((9 : Int)).toNat (IntKind.bits .i64))) (1 : Int)))), x12)))))] : List T13).length) * 88 ≤ 140737488355328) = true then chk3 (gL10_0 p0 p1 (IntKind.wrap .i64 (p2 + (1 : Int))) (p3 ++ ([((x1.getD p2.toNat (⟨#[]⟩ : ByteArray)), (x2, (false, ((IntKind.wrap .i64 ((bits .and .i64 (Int.fdiv (bits .and .i64 (p0.getD (IntKind.wrap .i64 (p2 + (1 : Int))).toNat (0 : Int)) (16777215 : Int)) (2 ^ min ((8 : Int)).toNat (IntKind.bits .i64))) (1 : Int)) + (1 : Int))), ((IntKind.wrap .i64 ((IntKind.wrap .i64 ((bits .and .i64 (Int.fdiv (bits .and .i64 (p0.getD (IntKind.wrap .i64 (p2 + (1 : Int))).toNat (0 : Int)) (16777215 : Int)) (2 ^ min ((8 : Int)).toNat (IntKind.bits .i64))) (1 : Int)) + (1 : Int))) + (bits .and .i64 (Int.fdiv (bits .and .i64 (p0.getD (IntKind.wrap .i64 (p2 + (1 : Int))).toNat (0 : Int)) (16777215 : Int)) (2 ^ min ((9 : Int)).toNat (IntKind.bits .i64))) (1 : Int)))), x12)))))] : List T13)) p4 p5 K) else none)))
                     else
                      (if (true && (true && decide ((0 : Int) < (p3.length : Int)))) = true then
                       (if decide ((0 : Int).toNat < p3.length) = true then
                        (chk1 (if (((((((p3.getD ((0 : Int).toNat) ((⟨#[]⟩ : ByteArray), (([] : List ByteArray), (false, ((0 : Int), ((0 : Int), ([] : List T7))))))).2).2).2).2).1) != (1 : Int)) = true then
                          (chk2 (gF18 (Int.fdiv (bits .and .i64 (p0.getD (IntKind.wrap .i64 (p2 + (1 : Int))).toNat (0 : Int)) (16777215 : Int)) (2 ^ min ((10 : Int)).toNat (IntKind.bits .i64))) (x1.getD p2.toNat (⟨#[]⟩ : ByteArray)) (x1.getD p2.toNat (⟨#[]⟩ : ByteArray)) fun x13 =>
                           chk6 (if decide ((p3.length + ([((x1.getD p2.toNat (⟨#[]⟩ : ByteArray)), (x2, (false, ((IntKind.wrap .i64 ((bits .and .i64 (Int.fdiv (bits .and .i64 (p0.getD (IntKind.wrap .i64 (p2 + (1 : Int))).toNat (0 : Int)) (16777215 : Int)) (2 ^ min ((8 : Int)).toNat (IntKind.bits .i64))) (1 : Int)) + (1 : Int))), ((IntKind.wrap .i64 ((IntKind.wrap .i64 ((bits .and .i64 (Int.fdiv (bits .and .i64 (p0.getD (IntKind.wrap .i64 (p2 + (1 : Int))).toNat (0 : Int)) (16777215 : Int)) (2 ^ min ((8 : Int)).toNat (IntKind.bits .i64))) (1 : Int)) + (1 : Int))) + (bits .and .i64 (Int.fdiv (bits .and .i64 (p0.getD (IntKind.wrap .i64 (p2 + (1 : Int))).toNat (0 : Int)) (16777215 : Int)) (2 ^ min ((9 : Int)).toNat (IntKind.bits .i64))) (1 : Int)))), x13)))))] : List T13).length) * 88 ≤ 140737488355328) = true then chk3 (gL10_0 p0 p1 (IntKind.wrap .i64 (p2 + (1 : Int))) (p3 ++ ([((x1.getD p2.toNat (⟨#[]⟩ : ByteArray)), (x2, (false, ((IntKind.wrap .i64 ((bits .and .i64 (Int.fdiv (bits .and .i64 (p0.getD (IntKind.wrap .i64 (p2 + (1 : Int))).toNat (0 : Int)) (16777215 : Int)) (2 ^ min ((8 : Int)).toNat (IntKind.bits .i64))) (1 : Int)) + (1 : Int))), ((IntKind.wrap .i64 ((IntKind.wrap .i64 ((bits .and .i64 (Int.fdiv (bits .and .i64 (p0.getD (IntKind.wrap .i64 (p2 + (1 : Int))).toNat (0 : Int)) (16777215 : Int)) (2 ^ min ((8 : Int)).toNat (IntKind.bits .i64))) (1 : Int)) + (1 : Int))) + (bits .and .i64 (Int.fdiv (bits .and .i64 (p0.getD (IntKind.wrap .i64 (p2 + (1 : Int))).toNat (0 : Int)) (16777215 : Int)) (2 ^ min ((9 : Int)).toNat (IntKind.bits .i64))) (1 : Int)))), x13)))))] : List T13)) p4 p5 K) else none)))
                         else
                          (chk2 (gF18 (Int.fdiv (bits .and .i64 (p0.getD (IntKind.wrap .i64 (p2 + (1 : Int))).toNat (0 : Int)) (16777215 : Int)) (2 ^ min ((10 : Int)).toNat (IntKind.bits .i64))) (x1.getD p2.toNat (⟨#[]⟩ : ByteArray)) (⟨#[97]⟩ : ByteArray) fun x14 =>
                           chk6 (if decide ((p3.length + ([((x1.getD p2.toNat (⟨#[]⟩ : ByteArray)), (x2, (false, ((IntKind.wrap .i64 ((bits .and .i64 (Int.fdiv (bits .and .i64 (p0.getD (IntKind.wrap .i64 (p2 + (1 : Int))).toNat (0 : Int)) (16777215 : Int)) (2 ^ min ((8 : Int)).toNat (IntKind.bits .i64))) (1 : Int)) + (1 : Int))), ((IntKind.wrap .i64 ((IntKind.wrap .i64 ((bits .and .i64 (Int.fdiv (bits .and .i64 (p0.getD (IntKind.wrap .i64 (p2 + (1 : Int))).toNat (0 : Int)) (16777215 : Int)) (2 ^ min ((8 : Int)).toNat (IntKind.bits .i64))) (1 : Int)) + (1 : Int))) + (bits .and .i64 (Int.fdiv (bits .and .i64 (p0.getD (IntKind.wrap .i64 (p2 + (1 : Int))).toNat (0 : Int)) (16777215 : Int)) (2 ^ min ((9 : Int)).toNat (IntKind.bits .i64))) (1 : Int)))), x14)))))] : List T13).length) * 88 ≤ 140737488355328) = true then chk3 (gL10_0 p0 p1 (IntKind.wrap .i64 (p2 + (1 : Int))) (p3 ++ ([((x1.getD p2.toNat (⟨#[]⟩ : ByteArray)), (x2, (false, ((IntKind.wrap .i64 ((bits .and .i64 (Int.fdiv (bits .and .i64 (p0.getD (IntKind.wrap .i64 (p2 + (1 : Int))).toNat (0 : Int)) (16777215 : Int)) (2 ^ min ((8 : Int)).toNat (IntKind.bits .i64))) (1 : Int)) + (1 : Int))), ((IntKind.wrap .i64 ((IntKind.wrap .i64 ((bits .and .i64 (Int.fdiv (bits .and .i64 (p0.getD (IntKind.wrap .i64 (p2 + (1 : Int))).toNat (0 : Int)) (16777215 : Int)) (2 ^ min ((8 : Int)).toNat (IntKind.bits .i64))) (1 : Int)) + (1 : Int))) + (bits .and .i64 (Int.fdiv (bits .and .i64 (p0.getD (IntKind.wrap .i64 (p2 + (1 : Int))).toNat (0 : Int)) (16777215 : Int)) (2 ^ min ((9 : Int)).toNat (IntKind.bits .i64))) (1 : Int)))), x14)))))] : List T13)) p4 p5 K) else none)))))
                       else
                        (none))
                      else
                       (none)))))
                  else
                   (chk1 (if (p2 == (0 : Int)) = true then
                     (chk3 (gF18 (Int.fdiv (bits .and .i64 (p0.getD (IntKind.wrap .i64 (p2 + (1 : Int))).toNat (0 : Int)) (16777215 : Int)) (2 ^ min ((10 : Int)).toNat (IntKind.bits .i64))) (x1.getD p2.toNat (⟨#[]⟩ : ByteArray)) (x1.getD p2.toNat (⟨#[]⟩ : ByteArray)) fun x15 =>
                      chk6 (if decide ((p3.length + ([((x1.getD p2.toNat (⟨#[]⟩ : ByteArray)), (x2, (false, ((1 : Int), ((1 : Int), x15)))))] : List T13).length) * 88 ≤ 140737488355328) = true then chk3 (gL10_0 p0 p1 (IntKind.wrap .i64 (p2 + (1 : Int))) (p3 ++ ([((x1.getD p2.toNat (⟨#[]⟩ : ByteArray)), (x2, (false, ((1 : Int), ((1 : Int), x15)))))] : List T13)) p4 p5 K) else none)))
                    else
                     (if (true && (true && decide ((0 : Int) < (p3.length : Int)))) = true then
                      (if decide ((0 : Int).toNat < p3.length) = true then
                       (chk1 (if (((((((p3.getD ((0 : Int).toNat) ((⟨#[]⟩ : ByteArray), (([] : List ByteArray), (false, ((0 : Int), ((0 : Int), ([] : List T7))))))).2).2).2).2).1) != (1 : Int)) = true then
                         (chk2 (gF18 (Int.fdiv (bits .and .i64 (p0.getD (IntKind.wrap .i64 (p2 + (1 : Int))).toNat (0 : Int)) (16777215 : Int)) (2 ^ min ((10 : Int)).toNat (IntKind.bits .i64))) (x1.getD p2.toNat (⟨#[]⟩ : ByteArray)) (x1.getD p2.toNat (⟨#[]⟩ : ByteArray)) fun x16 =>
                          chk6 (if decide ((p3.length + ([((x1.getD p2.toNat (⟨#[]⟩ : ByteArray)), (x2, (false, ((1 : Int), ((1 : Int), x16)))))] : List T13).length) * 88 ≤ 140737488355328) = true then chk3 (gL10_0 p0 p1 (IntKind.wrap .i64 (p2 + (1 : Int))) (p3 ++ ([((x1.getD p2.toNat (⟨#[]⟩ : ByteArray)), (x2, (false, ((1 : Int), ((1 : Int), x16)))))] : List T13)) p4 p5 K) else none)))
                        else
                         (chk2 (gF18 (Int.fdiv (bits .and .i64 (p0.getD (IntKind.wrap .i64 (p2 + (1 : Int))).toNat (0 : Int)) (16777215 : Int)) (2 ^ min ((10 : Int)).toNat (IntKind.bits .i64))) (x1.getD p2.toNat (⟨#[]⟩ : ByteArray)) (⟨#[97]⟩ : ByteArray) fun x17 =>
                          chk6 (if decide ((p3.length + ([((x1.getD p2.toNat (⟨#[]⟩ : ByteArray)), (x2, (false, ((1 : Int), ((1 : Int), x17)))))] : List T13).length) * 88 ≤ 140737488355328) = true then chk3 (gL10_0 p0 p1 (IntKind.wrap .i64 (p2 + (1 : Int))) (p3 ++ ([((x1.getD p2.toNat (⟨#[]⟩ : ByteArray)), (x2, (false, ((1 : Int), ((1 : Int), x17)))))] : List T13)) p4 p5 K) else none)))))
                      else
                       (none))
                     else
                      (none))))))))
              else
               (if false = true then
                (none)
               else
                (chk6 (if ((bits .and .i64 (Int.fdiv (bits .and .i64 (p0.getD (IntKind.wrap .i64 (p2 + (1 : Int))).toNat (0 : Int)) (16777215 : Int)) (2 ^ min ((6 : Int)).toNat (IntKind.bits .i64))) (3 : Int)) == (0 : Int)) = true then
                  (chk8 (chk3 (if (p2 == (0 : Int)) = true then
                     (chk3 (gF18 (Int.fdiv (bits .and .i64 (p0.getD (IntKind.wrap .i64 (p2 + (1 : Int))).toNat (0 : Int)) (16777215 : Int)) (2 ^ min ((10 : Int)).toNat (IntKind.bits .i64))) (x1.getD p2.toNat (⟨#[]⟩ : ByteArray)) (x1.getD p2.toNat (⟨#[]⟩ : ByteArray)) fun x18 =>
                      chk6 (if decide ((p3.length + ([((x1.getD p2.toNat (⟨#[]⟩ : ByteArray)), (x2, (false, ((IntKind.wrap .i64 ((bits .and .i64 (Int.fdiv (bits .and .i64 (p0.getD (IntKind.wrap .i64 (p2 + (1 : Int))).toNat (0 : Int)) (16777215 : Int)) (2 ^ min ((8 : Int)).toNat (IntKind.bits .i64))) (1 : Int)) + (1 : Int))), ((IntKind.wrap .i64 ((IntKind.wrap .i64 ((bits .and .i64 (Int.fdiv (bits .and .i64 (p0.getD (IntKind.wrap .i64 (p2 + (1 : Int))).toNat (0 : Int)) (16777215 : Int)) (2 ^ min ((8 : Int)).toNat (IntKind.bits .i64))) (1 : Int)) + (1 : Int))) + (bits .and .i64 (Int.fdiv (bits .and .i64 (p0.getD (IntKind.wrap .i64 (p2 + (1 : Int))).toNat (0 : Int)) (16777215 : Int)) (2 ^ min ((9 : Int)).toNat (IntKind.bits .i64))) (1 : Int)))), x18)))))] : List T13).length) * 88 ≤ 140737488355328) = true then chk3 (gL10_0 p0 p1 (IntKind.wrap .i64 (p2 + (1 : Int))) (p3 ++ ([((x1.getD p2.toNat (⟨#[]⟩ : ByteArray)), (x2, (false, ((IntKind.wrap .i64 ((bits .and .i64 (Int.fdiv (bits .and .i64 (p0.getD (IntKind.wrap .i64 (p2 + (1 : Int))).toNat (0 : Int)) (16777215 : Int)) (2 ^ min ((8 : Int)).toNat (IntKind.bits .i64))) (1 : Int)) + (1 : Int))), ((IntKind.wrap .i64 ((IntKind.wrap .i64 ((bits .and .i64 (Int.fdiv (bits .and .i64 (p0.getD (IntKind.wrap .i64 (p2 + (1 : Int))).toNat (0 : Int)) (16777215 : Int)) (2 ^ min ((8 : Int)).toNat (IntKind.bits .i64))) (1 : Int)) + (1 : Int))) + (bits .and .i64 (Int.fdiv (bits .and .i64 (p0.getD (IntKind.wrap .i64 (p2 + (1 : Int))).toNat (0 : Int)) (16777215 : Int)) (2 ^ min ((9 : Int)).toNat (IntKind.bits .i64))) (1 : Int)))), x18)))))] : List T13)) p4 p5 K) else none)))
                    else
                     (if (true && (true && decide ((0 : Int) < (p3.length : Int)))) = true then
                      (if decide ((0 : Int).toNat < p3.length) = true then
                       (chk1 (if (((((((p3.getD ((0 : Int).toNat) ((⟨#[]⟩ : ByteArray), (([] : List ByteArray), (false, ((0 : Int), ((0 : Int), ([] : List T7))))))).2).2).2).2).1) != (1 : Int)) = true then
                         (chk2 (gF18 (Int.fdiv (bits .and .i64 (p0.getD (IntKind.wrap .i64 (p2 + (1 : Int))).toNat (0 : Int)) (16777215 : Int)) (2 ^ min ((10 : Int)).toNat (IntKind.bits .i64))) (x1.getD p2.toNat (⟨#[]⟩ : ByteArray)) (x1.getD p2.toNat (⟨#[]⟩ : ByteArray)) fun x19 =>
                          chk6 (if decide ((p3.length + ([((x1.getD p2.toNat (⟨#[]⟩ : ByteArray)), (x2, (false, ((IntKind.wrap .i64 ((bits .and .i64 (Int.fdiv (bits .and .i64 (p0.getD (IntKind.wrap .i64 (p2 + (1 : Int))).toNat (0 : Int)) (16777215 : Int)) (2 ^ min ((8 : Int)).toNat (IntKind.bits .i64))) (1 : Int)) + (1 : Int))), ((IntKind.wrap .i64 ((IntKind.wrap .i64 ((bits .and .i64 (Int.fdiv (bits .and .i64 (p0.getD (IntKind.wrap .i64 (p2 + (1 : Int))).toNat (0 : Int)) (16777215 : Int)) (2 ^ min ((8 : Int)).toNat (IntKind.bits .i64))) (1 : Int)) + (1 : Int))) + (bits .and .i64 (Int.fdiv (bits .and .i64 (p0.getD (IntKind.wrap .i64 (p2 + (1 : Int))).toNat (0 : Int)) (16777215 : Int)) (2 ^ min ((9 : Int)).toNat (IntKind.bits .i64))) (1 : Int)))), x19)))))] : List T13).length) * 88 ≤ 140737488355328) = true then chk3 (gL10_0 p0 p1 (IntKind.wrap .i64 (p2 + (1 : Int))) (p3 ++ ([((x1.getD p2.toNat (⟨#[]⟩ : ByteArray)), (x2, (false, ((IntKind.wrap .i64 ((bits .and .i64 (Int.fdiv (bits .and .i64 (p0.getD (IntKind.wrap .i64 (p2 + (1 : Int))).toNat (0 : Int)) (16777215 : Int)) (2 ^ min ((8 : Int)).toNat (IntKind.bits .i64))) (1 : Int)) + (1 : Int))), ((IntKind.wrap .i64 ((IntKind.wrap .i64 ((bits .and .i64 (Int.fdiv (bits .and .i64 (p0.getD (IntKind.wrap .i64 (p2 + (1 : Int))).toNat (0 : Int)) (16777215 : Int)) (2 ^ min ((8 : Int)).toNat (IntKind.bits .i64))) (1 : Int)) + (1 : Int))) + (bits .and .i64 (Int.fdiv (bits .and .i64 (p0.getD (IntKind.wrap .i64 (p2 + (1 : Int))).toNat (0 : Int)) (16777215 : Int)) (2 ^ min ((9 : Int)).toNat (IntKind.bits .i64))) (1 : Int)))), x19)))))] : List T13)) p4 p5 K) else none)))
                        else
                         (chk2 (gF18 (Int.fdiv (bits .and .i64 (p0.getD (IntKind.wrap .i64 (p2 + (1 : Int))).toNat (0 : Int)) (16777215 : Int)) (2 ^ min ((10 : Int)).toNat (IntKind.bits .i64))) (x1.getD p2.toNat (⟨#[]⟩ : ByteArray)) (⟨#[97]⟩ : ByteArray) fun x20 =>
                          chk6 (if decide ((p3.length + ([((x1.getD p2.toNat (⟨#[]⟩ : ByteArray)), (x2, (false, ((IntKind.wrap .i64 ((bits .and .i64 (Int.fdiv (bits .and .i64 (p0.getD (IntKind.wrap .i64 (p2 + (1 : Int))).toNat (0 : Int)) (16777215 : Int)) (2 ^ min ((8 : Int)).toNat (IntKind.bits .i64))) (1 : Int)) + (1 : Int))), ((IntKind.wrap .i64 ((IntKind.wrap .i64 ((bits .and .i64 (Int.fdiv (bits .and .i64 (p0.getD (IntKind.wrap .i64 (p2 + (1 : Int))).toNat (0 : Int)) (16777215 : Int)) (2 ^ min ((8 : Int)).toNat (IntKind.bits .i64))) (1 : Int)) + (1 : Int))) + (bits .and .i64 (Int.fdiv (bits .and .i64 (p0.getD (IntKind.wrap .i64 (p2 + (1 : Int))).toNat (0 : Int)) (16777215 : Int)) (2 ^ min ((9 : Int)).toNat (IntKind.bits .i64))) (1 : Int)))), x20)))))] : List T13).length) * 88 ≤ 140737488355328) = true then chk3 (gL10_0 p0 p1 (IntKind.wrap .i64 (p2 + (1 : Int))) (p3 ++ ([((x1.getD p2.toNat (⟨#[]⟩ : ByteArray)), (x2, (false, ((IntKind.wrap .i64 ((bits .and .i64 (Int.fdiv (bits .and .i64 (p0.getD (IntKind.wrap .i64 (p2 + (1 : Int))).toNat (0 : Int)) (16777215 : Int)) (2 ^ min ((8 : Int)).toNat (IntKind.bits .i64))) (1 : Int)) + (1 : Int))), ((IntKind.wrap .i64 ((IntKind.wrap .i64 ((bits .and .i64 (Int.fdiv (bits .and .i64 (p0.getD (IntKind.wrap .i64 (p2 + (1 : Int))).toNat (0 : Int)) (16777215 : Int)) (2 ^ min ((8 : Int)).toNat (IntKind.bits .i64))) (1 : Int)) + (1 : Int))) + (bits .and .i64 (Int.fdiv (bits .and .i64 (p0.getD (IntKind.wrap .i64 (p2 + (1 : Int))).toNat (0 : Int)) (16777215 : Int)) (2 ^ min ((9 : Int)).toNat (IntKind.bits .i64))) (1 : Int)))), x20)))))] : List T13)) p4 p5 K) else none)))))
                      else
                       (none))
                     else
                      (none)))))
                 else
                  (chk1 (if (p2 == (0 : Int)) = true then
                    (chk3 (gF18 (Int.fdiv (bits .and .i64 (p0.getD (IntKind.wrap .i64 (p2 + (1 : Int))).toNat (0 : Int)) (16777215 : Int)) (2 ^ min ((10 : Int)).toNat (IntKind.bits .i64))) (x1.getD p2.toNat (⟨#[]⟩ : ByteArray)) (x1.getD p2.toNat (⟨#[]⟩ : ByteArray)) fun x21 =>
                     chk6 (if decide ((p3.length + ([((x1.getD p2.toNat (⟨#[]⟩ : ByteArray)), (x2, (false, ((1 : Int), ((1 : Int), x21)))))] : List T13).length) * 88 ≤ 140737488355328) = true then chk3 (gL10_0 p0 p1 (IntKind.wrap .i64 (p2 + (1 : Int))) (p3 ++ ([((x1.getD p2.toNat (⟨#[]⟩ : ByteArray)), (x2, (false, ((1 : Int), ((1 : Int), x21)))))] : List T13)) p4 p5 K) else none)))
                   else
                    (if (true && (true && decide ((0 : Int) < (p3.length : Int)))) = true then
                     (if decide ((0 : Int).toNat < p3.length) = true then
                      (chk1 (if (((((((p3.getD ((0 : Int).toNat) ((⟨#[]⟩ : ByteArray), (([] : List ByteArray), (false, ((0 : Int), ((0 : Int), ([] : List T7))))))).2).2).2).2).1) != (1 : Int)) = true then
                        (chk2 (gF18 (Int.fdiv (bits .and .i64 (p0.getD (IntKind.wrap .i64 (p2 + (1 : Int))).toNat (0 : Int)) (16777215 : Int)) (2 ^ min ((10 : Int)).toNat (IntKind.bits .i64))) (x1.getD p2.toNat (⟨#[]⟩ : ByteArray)) (x1.getD p2.toNat (⟨#[]⟩ : ByteArray)) fun x22 =>
                         chk6 (if decide ((p3.length + ([((x1.getD p2.toNat (⟨#[]⟩ : ByteArray)), (x2, (false, ((1 : Int), ((1 : Int), x22)))))] : List T13).length) * 88 ≤ 140737488355328) = true then chk3 (gL10_0 p0 p1 (IntKind.wrap .i64 (p2 + (1 : Int))) (p3 ++ ([((x1.getD p2.toNat (⟨#[]⟩ : ByteArray)), (x2, (false, ((1 : Int), ((1 : Int), x22)))))] : List T13)) p4 p5 K) else none)))
                       else
                        (chk2 (gF18 (Int.fdiv (bits .and .i64 (p0.getD (IntKind.wrap .i64 (p2 + (1 : Int))).toNat (0 : Int)) (16777215 : Int)) (2 ^ min ((10 : Int)).toNat (IntKind.bits .i64))) (x1.getD p2.toNat (⟨#[]⟩ : ByteArray)) (⟨#[97]⟩ : ByteArray) fun x23 =>
                         chk6 (if decide ((p3.length + ([((x1.getD p2.toNat (⟨#[]⟩ : ByteArray)), (x2, (false, ((1 : Int), ((1 : Int), x23)))))] : List T13).length) * 88 ≤ 140737488355328) = true then chk3 (gL10_0 p0 p1 (IntKind.wrap .i64 (p2 + (1 : Int))) (p3 ++ ([((x1.getD p2.toNat (⟨#[]⟩ : ByteArray)), (x2, (false, ((1 : Int), ((1 : Int), x23)))))] : List T13)) p4 p5 K) else none)))))
                     else
                      (none))
                    else
                     (none)))))))))))
          else
           (none))))
       else
        (none)))
     else
      (chk1 (gF16  fun x24 =>
       chk1 (if (true && (decide ((0 : Int) ≤ p2) && decide (p2 < (x24.length : Int)))) = true then
         (chk1 (gF17 (IntKind.wrap .i64 (p2 * (37 : Int))) fun x25 =>
          chk8 (chk2 (if decide (p2 > (0 : Int)) = true then
             (chk2 (if decide (p2 < (IntKind.wrap .i64 (p1 - (1 : Int)))) = true then
               (chk5 (if (!((bits .and .i64 (Int.fdiv (IntKind.wrap .i64 (p2 * (37 : Int))) (2 ^ min ((4 : Int)).toNat (IntKind.bits .i64))) (3 : Int)) == (0 : Int))) = true then
                 (chk3 (if ((bits .and .i64 (Int.fdiv (IntKind.wrap .i64 (p2 * (37 : Int))) (2 ^ min ((6 : Int)).toNat (IntKind.bits .i64))) (3 : Int)) == (0 : Int)) = true then
                   (chk8 (chk3 (if (p2 == (0 : Int)) = true then
                      (chk3 (gF18 (Int.fdiv (IntKind.wrap .i64 (p2 * (37 : Int))) (2 ^ min ((10 : Int)).toNat (IntKind.bits .i64))) (x24.getD p2.toNat (⟨#[]⟩ : ByteArray)) (x24.getD p2.toNat (⟨#[]⟩ : ByteArray)) fun x26 =>
                       chk6 (if decide ((p3.length + ([((x24.getD p2.toNat (⟨#[]⟩ : ByteArray)), (x25, (((bits .and .i64 (Int.fdiv (IntKind.wrap .i64 (p2 * (37 : Int))) (2 ^ min ((4 : Int)).toNat (IntKind.bits .i64))) (3 : Int)) == (0 : Int)), ((IntKind.wrap .i64 ((bits .and .i64 (Int.fdiv (IntKind.wrap .i64 (p2 * (37 : Int))) (2 ^ min ((8 : Int)).toNat (IntKind.bits .i64))) (1 : Int)) + (1 : Int))), ((IntKind.wrap .i64 ((IntKind.wrap .i64 ((bits .and .i64 (Int.fdiv (IntKind.wrap .i64 (p2 * (37 : Int))) (2 ^ min ((8 : Int)).toNat (IntKind.bits .i64))) (1 : Int)) + (1 : Int))) + (bits .and .i64 (Int.fdiv (IntKind.wrap .i64 (p2 * (37 : Int))) (2 ^ min ((9 : Int)).toNat (IntKind.bits .i64))) (1 : Int)))), x26)))))] : List T13).length) * 88 ≤ 140737488355328) = true then chk3 (gL10_0 p0 p1 (IntKind.wrap .i64 (p2 + (1 : Int))) (p3 ++ ([((x24.getD p2.toNat (⟨#[]⟩ : ByteArray)), (x25, (((bits .and .i64 (Int.fdiv (IntKind.wrap .i64 (p2 * (37 : Int))) (2 ^ min ((4 : Int)).toNat (IntKind.bits .i64))) (3 : Int)) == (0 : Int)), ((IntKind.wrap .i64 ((bits .and .i64 (Int.fdiv (IntKind.wrap .i64 (p2 * (37 : Int))) (2 ^ min ((8 : Int)).toNat (IntKind.bits .i64))) (1 : Int)) + (1 : Int))), ((IntKind.wrap .i64 ((IntKind.wrap .i64 ((bits .and .i64 (Int.fdiv (IntKind.wrap .i64 (p2 * (37 : Int))) (2 ^ min ((8 : Int)).toNat (IntKind.bits .i64))) (1 : Int)) + (1 : Int))) + (bits .and .i64 (Int.fdiv (IntKind.wrap .i64 (p2 * (37 : Int))) (2 ^ min ((9 : Int)).toNat (IntKind.bits .i64))) (1 : Int)))), x26)))))] : List T13)) p4 p5 K) else none)))
                     else
                      (if (true && (true && decide ((0 : Int) < (p3.length : Int)))) = true then
                       (if decide ((0 : Int).toNat < p3.length) = true then
                        (chk1 (if (((((((p3.getD ((0 : Int).toNat) ((⟨#[]⟩ : ByteArray), (([] : List ByteArray), (false, ((0 : Int), ((0 : Int), ([] : List T7))))))).2).2).2).2).1) != (1 : Int)) = true then
                          (chk2 (gF18 (Int.fdiv (IntKind.wrap .i64 (p2 * (37 : Int))) (2 ^ min ((10 : Int)).toNat (IntKind.bits .i64))) (x24.getD p2.toNat (⟨#[]⟩ : ByteArray)) (x24.getD p2.toNat (⟨#[]⟩ : ByteArray)) fun x27 =>
                           chk6 (if decide ((p3.length + ([((x24.getD p2.toNat (⟨#[]⟩ : ByteArray)), (x25, (((bits .and .i64 (Int.fdiv (IntKind.wrap .i64 (p2 * (37 : Int))) (2 ^ min ((4 : Int)).toNat (IntKind.bits .i64))) (3 : Int)) == (0 : Int)), ((IntKind.wrap .i64 ((bits .and .i64 (Int.fdiv (IntKind.wrap .i64 (p2 * (37 : Int))) (2 ^ min ((8 : Int)).toNat (IntKind.bits .i64))) (1 : Int)) + (1 : Int))), ((IntKind.wrap .i64 ((IntKind.wrap .i64 ((bits .and .i64 (Int.fdiv (IntKind.wrap .i64 (p2 * (37 : Int))) (2 ^ min ((8 : Int)).toNat (IntKind.bits .i64))) (1 : Int)) + (1 : Int))) + (bits .and .i64 (Int.fdiv (IntKind.wrap .i64 (p2 * (37 : Int))) (2 ^ min ((9 : Int)).toNat (IntKind.bits .i64))) (1 : Int)))), x27)))))] : List T13).length) * 88 ≤ 140737488355328) = true then chk3 (gL10_0 p0 p1 (IntKind.wrap .i64 (p2 + (1 : Int))) (p3 ++ ([((x24.getD p2.toNat (⟨#[]⟩ : ByteArray)), (x25, (((bits .and .i64 (Int.fdiv (IntKind.wrap .i64 (p2 * (37 : Int))) (2 ^ min ((4 : Int)).toNat (IntKind.bits .i64))) (3 : Int)) == (0 : Int)), ((IntKind.wrap .i64 ((bits .and .i64 (Int.fdiv (IntKind.wrap .i64 (p2 * (37 : Int))) (2 ^ min ((8 : Int)).toNat (IntKind.bits .i64))) (1 : Int)) + (1 : Int))), ((IntKind.wrap .i64 ((IntKind.wrap .i64 ((bits .and .i64 (Int.fdiv (IntKind.wrap .i64 (p2 * (37 : Int))) (2 ^ min ((8 : Int)).toNat (IntKind.bits .i64))) (1 : Int)) + (1 : Int))) + (bits .and .i64 (Int.fdiv (IntKind.wrap .i64 (p2 * (37 : Int))) (2 ^ min ((9 : Int)).toNat (IntKind.bits .i64))) (1 : Int)))), x27)))))] : List T13)) p4 p5 K) else none)))
                         else
                          (chk2 (gF18 (Int.fdiv (IntKind.wrap .i64 (p2 * (37 : Int))) (2 ^ min ((10 : Int)).toNat (IntKind.bits .i64))) (x24.getD p2.toNat (⟨#[]⟩ : ByteArray)) (⟨#[97]⟩ : ByteArray) fun x28 =>
                           chk6 (if decide ((p3.length + ([((x24.getD p2.toNat (⟨#[]⟩ : ByteArray)), (x25, (((bits .and .i64 (Int.fdiv (IntKind.wrap .i64 (p2 * (37 : Int))) (2 ^ min ((4 : Int)).toNat (IntKind.bits .i64))) (3 : Int)) == (0 : Int)), ((IntKind.wrap .i64 ((bits .and .i64 (Int.fdiv (IntKind.wrap .i64 (p2 * (37 : Int))) (2 ^ min ((8 : Int)).toNat (IntKind.bits .i64))) (1 : Int)) + (1 : Int))), ((IntKind.wrap .i64 ((IntKind.wrap .i64 ((bits .and .i64 (Int.fdiv (IntKind.wrap .i64 (p2 * (37 : Int))) (2 ^ min ((8 : Int)).toNat (IntKind.bits .i64))) (1 : Int)) + (1 : Int))) + (bits .and .i64 (Int.fdiv (IntKind.wrap .i64 (p2 * (37 : Int))) (2 ^ min ((9 : Int)).toNat (IntKind.bits .i64))) (1 : Int)))), x28)))))] : List T13).length) * 88 ≤ 140737488355328) = true then chk3 (gL10_0 p0 p1 (IntKind.wrap .i64 (p2 + (1 : Int))) (p3 ++ ([((x24.getD p2.toNat (⟨#[]⟩ : ByteArray)), (x25, (((bits .and .i64 (Int.fdiv (IntKind.wrap .i64 (p2 * (37 : Int))) (2 ^ min ((4 : Int)).toNat (IntKind.bits .i64))) (3 : Int)) == (0 : Int)), ((IntKind.wrap .i64 ((bits .and .i64 (Int.fdiv (IntKind.wrap .i64 (p2 * (37 : Int))) (2 ^ min ((8 : Int)).toNat (IntKind.bits .i64))) (1 : Int)) + (1 : Int))), ((IntKind.wrap .i64 ((IntKind.wrap .i64 ((bits .and .i64 (Int.fdiv (IntKind.wrap .i64 (p2 * (37 : Int))) (2 ^ min ((8 : Int)).toNat (IntKind.bits .i64))) (1 : Int)) + (1 : Int))) + (bits .and .i64 (Int.fdiv (IntKind.wrap .i64 (p2 * (37 : Int))) (2 ^ min ((9 : Int)).toNat (IntKind.bits .i64))) (1 : Int)))), x28)))))] : List T13)) p4 p5 K) else none)))))
                       else
                        (none))
                      else
                       (none)))))
                  else
                   (chk1 (if (p2 == (0 : Int)) = true then
                     (chk3 (gF18 (Int.fdiv (IntKind.wrap .i64 (p2 * (37 : Int))) (2 ^ min ((10 : Int)).toNat (IntKind.bits .i64))) (x24.getD p2.toNat (⟨#[]⟩ : ByteArray)) (x24.getD p2.toNat (⟨#[]⟩ : ByteArray)) fun x29 =>
                      chk6 (if decide ((p3.length + ([((x24.getD p2.toNat (⟨#[]⟩ : ByteArray)), (x25, (((bits .and .i64 (Int.fdiv (IntKind.wrap .i64 (p2 * (37 : Int))) (2 ^ min ((4 : Int)).toNat (IntKind.bits .i64))) (3 : Int)) == (0 : Int)), ((1 : Int), ((1 : Int), x29)))))] : List T13).length) * 88 ≤ 140737488355328) = true then chk3 (gL10_0 p0 p1 (IntKind.wrap .i64 (p2 + (1 : Int))) (p3 ++ ([((x24.getD p2.toNat (⟨#[]⟩ : ByteArray)), (x25, (((bits .and .i64 (Int.fdiv (IntKind.wrap .i64 (p2 * (37 : Int))) (2 ^ min ((4 : Int)).toNat (IntKind.bits .i64))) (3 : Int)) == (0 : Int)), ((1 : Int), ((1 : Int), x29)))))] : List T13)) p4 p5 K) else none)))
                    else
                     (if (true && (true && decide ((0 : Int) < (p3.length : Int)))) = true then
                      (if decide ((0 : Int).toNat < p3.length) = true then
                       (chk1 (if (((((((p3.getD ((0 : Int).toNat) ((⟨#[]⟩ : ByteArray), (([] : List ByteArray), (false, ((0 : Int), ((0 : Int), ([] : List T7))))))).2).2).2).2).1) != (1 : Int)) = true then
                         (chk2 (gF18 (Int.fdiv (IntKind.wrap .i64 (p2 * (37 : Int))) (2 ^ min ((10 : Int)).toNat (IntKind.bits .i64))) (x24.getD p2.toNat (⟨#[]⟩ : ByteArray)) (x24.getD p2.toNat (⟨#[]⟩ : ByteArray)) fun x30 =>
                          chk6 (if decide ((p3.length + ([((x24.getD p2.toNat (⟨#[]⟩ : ByteArray)), (x25, (((bits .and .i64 (Int.fdiv (IntKind.wrap .i64 (p2 * (37 : Int))) (2 ^ min ((4 : Int)).toNat (IntKind.bits .i64))) (3 : Int)) == (0 : Int)), ((1 : Int), ((1 : Int), x30)))))] : List T13).length) * 88 ≤ 140737488355328) = true then chk3 (gL10_0 p0 p1 (IntKind.wrap .i64 (p2 + (1 : Int))) (p3 ++ ([((x24.getD p2.toNat (⟨#[]⟩ : ByteArray)), (x25, (((bits .and .i64 (Int.fdiv (IntKind.wrap .i64 (p2 * (37 : Int))) (2 ^ min ((4 : Int)).toNat (IntKind.bits .i64))) (3 : Int)) == (0 : Int)), ((1 : Int), ((1 : Int), x30)))))] : List T13)) p4 p5 K) else none)))
                        else
                         (chk2 (gF18 (Int.fdiv (IntKind.wrap .i64 (p2 * (37 : Int))) (2 ^ min ((10 : Int)).toNat (IntKind.bits .i64))) (x24.getD p2.toNat (⟨#[]⟩ : ByteArray)) (⟨#[97]⟩ : ByteArray) fun x31 =>
                          chk6 (if decide ((p3.length + ([((x24.getD p2.toNat (⟨#[]⟩ : ByteArray)), (x25, (((bits .and .i64 (Int.fdiv (IntKind.wrap .i64 (p2 * (37 : Int))) (2 ^ min ((4 : Int)).toNat (IntKind.bits .i64))) (3 : Int)) == (0 : Int)), ((1 : Int), ((1 : Int), x31)))))] : List T13).length) * 88 ≤ 140737488355328) = true then chk3 (gL10_0 p0 p1 (IntKind.wrap .i64 (p2 + (1 : Int))) (p3 ++ ([((x24.getD p2.toNat (⟨#[]⟩ : ByteArray)), (x25, (((bits .and .i64 (Int.fdiv (IntKind.wrap .i64 (p2 * (37 : Int))) (2 ^ min ((4 : Int)).toNat (IntKind.bits .i64))) (3 : Int)) == (0 : Int)), ((1 : Int), ((1 : Int), x31)))))] : List T13)) p4 p5 K) else none)))))
                      else
                       (none))
                     else
                      (none))))))
                else
                 (if false = true then
                  (none)
                 else
                  (chk1 (if (p2 == (0 : Int)) = true then
                    (chk3 (gF18 (Int.fdiv (IntKind.wrap .i64 (p2 * (37 : Int))) (2 ^ min ((10 : Int)).toNat (IntKind.bits .i64))) (x24.getD p2.toNat (⟨#[]⟩ : ByteArray)) (x24.getD p2.toNat (⟨#[]⟩ : ByteArray)) fun x32 =>
                     chk6 (if decide ((p3.length + ([((x24.getD p2.toNat (⟨#[]⟩ : ByteArray)), (x25, (((bits .and .i64 (Int.fdiv (IntKind.wrap .i64 (p2 * (37 : Int))) (2 ^ min ((4 : Int)).toNat (IntKind.bits .i64))) (3 : Int)) == (0 : Int)), ((1 : Int), ((1 : Int), x32)))))] : List T13).length) * 88 ≤ 140737488355328) = true then chk3 (gL10_0 p0 p1 (IntKind.wrap .i64 (p2 + (1 : Int))) (p3 ++ ([((x24.getD p2.toNat (⟨#[]⟩ : ByteArray)), (x25, (((bits .and .i64 (Int.fdiv (IntKind.wrap .i64 (p2 * (37 : Int))) (2 ^ min ((4 : Int)).toNat (IntKind.bits .i64))) (3 : Int)) == (0 : Int)), ((1 : Int), ((1 : Int), x32)))))] : List T13)) p4 p5 K) else none)))
                   else
                    (if (true && (true && decide ((0 : Int) < (p3.length : Int)))) = true then
                     (if decide ((0 : Int).toNat < p3.length) = true then
                      (chk1 (if (((((((p3.getD ((0 : Int).toNat) ((⟨#[]⟩ : ByteArray), (([] : List ByteArray), (false, ((0 : Int), ((0 : Int), ([] : List T7))))))).2).2).2).2).1) != (1 : Int)) = true then
                        (chk2 (gF18 (Int.fdiv (IntKind.wrap .i64 (p2 * (37 : Int))) (2 ^ min ((10 : Int)).toNat (IntKind.bits .i64))) (x24.getD p2.toNat (⟨#[]⟩ : ByteArray)) (x24.getD p2.toNat (⟨#[]⟩ : ByteArray)) fun x33 =>
                         chk6 (if decide ((p3.length + ([((x24.getD p2.toNat (⟨#[]⟩ : ByteArray)), (x25, (((bits .and .i64 (Int.fdiv (IntKind.wrap .i64 (p2 * (37 : Int))) (2 ^ min ((4 : Int)).toNat (IntKind.bits .i64))) (3 : Int)) == (0 : Int)), ((1 : Int), ((1 : Int), x33)))))] : List T13).length) * 88 ≤ 140737488355328) = true then chk3 (gL10_0 p0 p1 (IntKind.wrap .i64 (p2 + (1 : Int))) (p3 ++ ([((x24.getD p2.toNat (⟨#[]⟩ : ByteArray)), (x25, (((bits .and .i64 (Int.fdiv (IntKind.wrap .i64 (p2 * (37 : Int))) (2 ^ min ((4 : Int)).toNat (IntKind.bits .i64))) (3 : Int)) == (0 : Int)), ((1 : Int), ((1 : Int), x33)))))] : List T13)) p4 p5 K) else none)))
                       else
                        (chk2 (gF18 (Int.fdiv (IntKind.wrap .i64 (p2 * (37 : Int))) (2 ^ min ((10 : Int)).toNat (IntKind.bits .i64))) (x24.getD p2.toNat (⟨#[]⟩ : ByteArray)) (⟨#[97]⟩ : ByteArray) fun x34 =>
                         chk6 (if decide ((p3.length + ([((x24.getD p2.toNat (⟨#[]⟩ : ByteArray)), (x25, (((bits .and .i64 (Int.fdiv (IntKind.wrap .i64 (p2 * (37 : Int))) (2 ^ min ((4 : Int)).toNat (IntKind.bits .i64))) (3 : Int)) == (0 : Int)), ((1 : Int), ((1 : Int), x34)))))] : List T13).length) * 88 ≤ 140737488355328) = true then chk3 (gL10_0 p0 p1 (IntKind.wrap .i64 (p2 + (1 : Int))) (p3 ++ ([((x24.getD p2.toNat (⟨#[]⟩ : ByteArray)), (x25, (((bits .and .i64 (Int.fdiv (IntKind.wrap .i64 (p2 * (37 : Int))) (2 ^ min ((4 : Int)).toNat (IntKind.bits .i64))) (3 : Int)) == (0 : Int)), ((1 : Int), ((1 : Int), x34)))))] : List T13)) p4 p5 K) else none)))))
                     else
                      (none))
                    else
                     (none)))))))
              else
               (chk6 (if ((bits .and .i64 (Int.fdiv (IntKind.wrap .i64 (p2 * (37 : Int))) (2 ^ min ((6 : Int)).toNat (IntKind.bits .i64))) (3 : Int)) == (0 : Int)) = true then
                 (chk8 (chk3 (if (p2 == (0 : Int)) = true then
                    (chk3 (gF18 (Int.fdiv (IntKind.wrap .i64 (p2 * (37 : Int))) (2 ^ min ((10 : Int)).toNat (IntKind.bits .i64))) (x24.getD p2.toNat (⟨#[]⟩ : ByteArray)) (x24.getD p2.toNat (⟨#[]⟩ : ByteArray)) fun x35 =>
                     chk6 (if decide ((p3.length + ([((x24.getD p2.toNat (⟨#[]⟩ : ByteArray)), (x25, (false, ((IntKind.wrap .i64 ((bits .and .i64 (Int.fdiv (IntKind.wrap .i64 (p2 * (37 : Int))) (2 ^ min ((8 : Int)).toNat (IntKind.bits .i64))) (1 : Int)) + (1 : Int))), ((IntKind.wrap .i64 ((IntKind.wrap .i64 ((bits .and .i64 (Int.fdiv (IntKind.wrap .i64 (p2 * (37 : Int))) (2 ^ min ((8 : Int)).toNat (IntKind.bits .i64))) (1 : Int)) + (1 : Int))) + (bits .and .i64 (Int.fdiv (IntKind.wrap .i64 (p2 * (37 : Int))) (2 ^ min ((9 : Int)).toNat (IntKind.bits .i64))) (1 : Int)))), x35)))))] : List T13).length) * 88 ≤ 140737488355328) = true then chk3 (gL10_0 p0 p1 (IntKind.wrap .i64 (p2 + (1 : Int))) (p3 ++ ([((x24.getD p2.toNat (⟨#[]⟩ : ByteArray)), (x25, (false, ((IntKind.wrap .i64 ((bits .and .i64 (Int.fdiv (IntKind.wrap .i64 (p2 * (37 : Int))) (2 ^ min ((8 : Int)).toNat (IntKind.bits .i64))) (1 : Int)) + (1 : Int))), ((IntKind.wrap .i64 ((IntKind.wrap .i64 ((bits .and .i64 (Int.fdiv (IntKind.wrap .i64 (p2 * (37 : Int))) (2 ^ min ((8 : Int)).toNat (IntKind.bits .i64))) (1 : Int)) + (1 : Int))) + (bits .and .i64 (Int.fdiv (IntKind.wrap .i64 (p2 * (37 : Int))) (2 ^ min ((9 : Int)).toNat (IntKind.bits .i64))) (1 : Int)))), x35)))))] : List T13)) p4 p5 K) else none)))
                   else
                    (if (true && (true && decide ((0 : Int) < (p3.length : Int)))) = true then
                     (if decide ((0 : Int).toNat < p3.length) = true then
                      (chk1 (if (((((((p3.getD ((0 : Int).toNat) ((⟨#[]⟩ : ByteArray), (([] : List ByteArray), (false, ((0 : Int), ((0 : Int), ([] : List T7))))))).2).2).2).2).1) != (1 : Int)) = true then
                        (chk2 (gF18 (Int.fdiv (IntKind.wrap .i64 (p2 * (37 : Int))) (2 ^ min ((10 : Int)).toNat (IntKind.bits .i64))) (x24.getD p2.toNat (⟨#[]⟩ : ByteArray)) (x24.getD p2.toNat (⟨#[]⟩ : ByteArray)) fun x36 =>
                         chk6 (if decide ((p3.length + ([((x24.getD p2.toNat (⟨#[]⟩ : ByteArray)), (x25, (false, ((IntKind.wrap .i64 ((bits .and .i64 (Int.fdiv (IntKind.wrap .i64 (p2 * (37 : Int))) (2 ^ min ((8 : Int)).toNat (IntKind.bits .i64))) (1 : Int)) + (1 : Int))), ((IntKind.wrap .i64 ((IntKind.wrap .i64 ((bits .and .i64 (Int.fdiv (IntKind.wrap .i64 (p2 * (37 : Int))) (2 ^ min ((8 : Int)).toNat (IntKind.bits .i64))) (1 : Int)) + (1 : Int))) + (bits .and .i64 (Int.fdiv (IntKind.wrap .i64 (p2 * (37 : Int))) (2 ^ min ((9 : Int)).toNat (IntKind.bits .i64))) (1 : Int)))), x36)))))] : List T13).length) * 88 ≤ 140737488355328) = true then chk3 (gL10_0 p0 p1 (IntKind.wrap .i64 (p2 + (1 : Int))) (p3 ++ ([((x24.getD p2.toNat (⟨#[]⟩ : ByteArray)), (x25, (false, ((IntKind.wrap .i64 ((bits .and .i64 (Int.fdiv (IntKind.wrap .i64 (p2 * (37 : Int))) (2 ^ min ((8 : Int)).toNat (IntKind.bits .i64))) (1 : Int)) + (1 : Int))), ((IntKind.wrap .i64 ((IntKind.wrap .i64 ((bits .and .i64 (Int.fdiv (IntKind.wrap .i64 (p2 * (37 : Int))) (2 ^ min ((8 : Int)).toNat (IntKind.bits .i64))) (1 : Int)) + (1 : Int))) + (bits .and .i64 (Int.fdiv (IntKind.wrap .i64 (p2 * (37 : Int))) (2 ^ min ((9 : Int)).toNat (IntKind.bits .i64))) (1 : Int)))), x36)))))] : List T13)) p4 p5 K) else none)))
                       else
                        (chk2 (gF18 (Int.fdiv (IntKind.wrap .i64 (p2 * (37 : Int))) (2 ^ min ((10 : Int)).toNat (IntKind.bits .i64))) (x24.getD p2.toNat (⟨#[]⟩ : ByteArray)) (⟨#[97]⟩ : ByteArray) fun x37 =>
                         chk6 (if decide ((p3.length + ([((x24.getD p2.toNat (⟨#[]⟩ : ByteArray)), (x25, (false, ((IntKind.wrap .i64 ((bits .and .i64 (Int.fdiv (IntKind.wrap .i64 (p2 * (37 : Int))) (2 ^ min ((8 : Int)).toNat (IntKind.bits .i64))) (1 : Int)) + (1 : Int))), ((IntKind.wrap .i64 ((IntKind.wrap .i64 ((bits .and .i64 (Int.fdiv (IntKind.wrap .i64 (p2 * (37 : Int))) (2 ^ min ((8 : Int)).toNat (IntKind.bits .i64))) (1 : Int)) + (1 : Int))) + (bits .and .i64 (Int.fdiv (IntKind.wrap .i64 (p2 * (37 : Int))) (2 ^ min ((9 : Int)).toNat (IntKind.bits .i64))) (1 : Int)))), x37)))))] : List T13).length) * 88 ≤ 140737488355328) = true then chk3 (gL10_0 p0 p1 (IntKind.wrap .i64 (p2 + (1 : Int))) (p3 ++ ([((x24.getD p2.toNat (⟨#[]⟩ : ByteArray)), (x25, (false, ((IntKind.wrap .i64 ((bits .and .i64 (Int.fdiv (IntKind.wrap .i64 (p2 * (37 : Int))) (2 ^ min ((8 : Int)).toNat (IntKind.bits .i64))) (1 : Int)) + (1 : Int))), ((IntKind.wrap .i64 ((IntKind.wrap .i64 ((bits .and .i64 (Int.fdiv (IntKind.wrap .i64 (p2 * (37 : Int))) (2 ^ min ((8 : Int)).toNat (IntKind.bits .i64))) (1 : Int)) + (1 : Int))) + (bits .and .i64 (Int.fdiv (IntKind.wrap .i64 (p2 * (37 : Int))) (2 ^ min ((9 : Int)).toNat (IntKind.bits .i64))) (1 : Int)))), x37)))))] : List T13)) p4 p5 K) else none)))))
                     else
                      (none))
                    else
                     (none)))))
                else
                 (chk1 (if (p2 == (0 : Int)) = true then
                   (chk3 (gF18 (Int.fdiv (IntKind.wrap .i64 (p2 * (37 : Int))) (2 ^ min ((10 : Int)).toNat (IntKind.bits .i64))) (x24.getD p2.toNat (⟨#[]⟩ : ByteArray)) (x24.getD p2.toNat (⟨#[]⟩ : ByteArray)) fun x38 =>
                    chk6 (if decide ((p3.length + ([((x24.getD p2.toNat (⟨#[]⟩ : ByteArray)), (x25, (false, ((1 : Int), ((1 : Int), x38)))))] : List T13).length) * 88 ≤ 140737488355328) = true then chk3 (gL10_0 p0 p1 (IntKind.wrap .i64 (p2 + (1 : Int))) (p3 ++ ([((x24.getD p2.toNat (⟨#[]⟩ : ByteArray)), (x25, (false, ((1 : Int), ((1 : Int), x38)))))] : List T13)) p4 p5 K) else none)))
                  else
                   (if (true && (true && decide ((0 : Int) < (p3.length : Int)))) = true then
                    (if decide ((0 : Int).toNat < p3.length) = true then
                     (chk1 (if (((((((p3.getD ((0 : Int).toNat) ((⟨#[]⟩ : ByteArray), (([] : List ByteArray), (false, ((0 : Int), ((0 : Int), ([] : List T7))))))).2).2).2).2).1) != (1 : Int)) = true then
                       (chk2 (gF18 (Int.fdiv (IntKind.wrap .i64 (p2 * (37 : Int))) (2 ^ min ((10 : Int)).toNat (IntKind.bits .i64))) (x24.getD p2.toNat (⟨#[]⟩ : ByteArray)) (x24.getD p2.toNat (⟨#[]⟩ : ByteArray)) fun x39 =>
                        chk6 (if decide ((p3.length + ([((x24.getD p2.toNat (⟨#[]⟩ : ByteArray)), (x25, (false, ((1 : Int), ((1 : Int), x39)))))] : List T13).length) * 88 ≤ 140737488355328) = true then chk3 (gL10_0 p0 p1 (IntKind.wrap .i64 (p2 + (1 : Int))) (p3 ++ ([((x24.getD p2.toNat (⟨#[]⟩ : ByteArray)), (x25, (false, ((1 : Int), ((1 : Int), x39)))))] : List T13)) p4 p5 K) else none)))
                      else
                       (chk2 (gF18 (Int.fdiv (IntKind.wrap .i64 (p2 * (37 : Int))) (2 ^ min ((10 : Int)).toNat (IntKind.bits .i64))) (x24.getD p2.toNat (⟨#[]⟩ : ByteArray)) (⟨#[97]⟩ : ByteArray) fun x40 =>
                        chk6 (if decide ((p3.length + ([((x24.getD p2.toNat (⟨#[]⟩ : ByteArray)), (x25, (false, ((1 : Int), ((1 : Int), x40)))))] : List T13).length) * 88 ≤ 140737488355328) = true then chk3 (gL10_0 p0 p1 (IntKind.wrap .i64 (p2 + (1 : Int))) (p3 ++ ([((x24.getD p2.toNat (⟨#[]⟩ : ByteArray)), (x25, (false, ((1 : Int), ((1 : Int), x40)))))] : List T13)) p4 p5 K) else none)))))
                    else
                     (none))
                   else
                    (none))))))))
            else
             (if false = true then
              (none)
             else
              (chk6 (if ((bits .and .i64 (Int.fdiv (IntKind.wrap .i64 (p2 * (37 : Int))) (2 ^ min ((6 : Int)).toNat (IntKind.bits .i64))) (3 : Int)) == (0 : Int)) = true then
                (chk8 (chk3 (if (p2 == (0 : Int)) = true then
                   (chk3 (gF18 (Int.fdiv (IntKind.wrap .i64 (p2 * (37 : Int))) (2 ^ min ((10 : Int)).toNat (IntKind.bits .i64))) (x24.getD p2.toNat (⟨#[]⟩ : ByteArray)) (x24.getD p2.toNat (⟨#[]⟩ : ByteArray)) fun x41 =>
                    chk6 (if decide ((p3.length + ([((x24.getD p2.toNat (⟨#[]⟩ : ByteArray)), (x25, (false, ((IntKind.wrap .i64 ((bits .and .i64 (Int.fdiv (IntKind.wrap .i64 (p2 * (37 : Int))) (2 ^ min ((8 : Int)).toNat (IntKind.bits .i64))) (1 : Int)) + (1 : Int))), ((IntKind.wrap .i64 ((IntKind.wrap .i64 ((bits .and .i64 (Int.fdiv (IntKind.wrap .i64 (p2 * (37 : Int))) (2 ^ min ((8 : Int)).toNat (IntKind.bits .i64))) (1 : Int)) + (1 : Int))) + (bits .and .i64 (Int.fdiv (IntKind.wrap .i64 (p2 * (37 : Int))) (2 ^ min ((9 : Int)).toNat (IntKind.bits .i64))) (1 : Int)))), x41)))))] : List T13).length) * 88 ≤ 140737488355328) = true then chk3 (gL10_0 p0 p1 (IntKind.wrap .i64 (p2 + (1 : Int))) (p3 ++ ([((x24.getD p2.toNat (⟨#[]⟩ : ByteArray)), (x25, (false, ((IntKind.wrap .i64 ((bits .and .i64 (Int.fdiv (IntKind.wrap .i64 (p2 * (37 : Int))) (2 ^ min ((8 : Int)).toNat (IntKind.bits .i64))) (1 : Int)) + (1 : Int))), ((IntKind.wrap .i64 ((IntKind.wrap .i64 ((bits .and .i64 (Int.fdiv (IntKind.wrap .i64 (p2 * (37 : Int))) (2 ^ min ((8 : Int)).toNat (IntKind.bits .i64))) (1 : Int)) + (1 : Int))) + (bits .and .i64 (Int.fdiv (IntKind.wrap .i64 (p2 * (37 : Int))) (2 ^ min ((9 : Int)).toNat (IntKind.bits .i64))) (1 : Int)))), x41)))))] : List T13)) p4 p5 K) else none)))
                  else
                   (if (true && (true && decide ((0 : Int) < (p3.length : Int)))) = true then
                    (if decide ((0 : Int).toNat < p3.length) = true then
                     (chk1 (if (((((((p3.getD ((0 : Int).toNat) ((⟨#[]⟩ : ByteArray), (([] : List ByteArray), (false, ((0 : Int), ((0 : Int), ([] : List T7))))))).2).2).2).2).1) != (1 : Int)) = true then
                       (chk2 (gF18 (Int.fdiv (IntKind.wrap .i64 (p2 * (37 : Int))) (2 ^ min ((10 : Int)).toNat (IntKind.bits .i64))) (x24.getD p2.toNat (⟨#[]⟩ : ByteArray)) (x24.getD p2.toNat (⟨#[]⟩ : ByteArray)) fun x42 =>
                        chk6 (if decide ((p3.length + ([((x24.getD p2.toNat (⟨#[]⟩ : ByteArray)), (x25, (false, ((IntKind.wrap .i64 ((bits .and .i64 (Int.fdiv (IntKind.wrap .i64 (p2 * (37 : Int))) (2 ^ min ((8 : Int)).toNat (IntKind.bits .i64))) (1 : Int)) + (1 : Int))), ((IntKind.wrap .i64 ((IntKind.wrap .i64 ((bits .and .i64 (Int.fdiv (IntKind.wrap .i64 (p2 * (37 : Int))) (2 ^ min ((8 : Int)).toNat (IntKind.bits .i64))) (1 : Int)) + (1 : Int))) + (bits .and .i64 (Int.fdiv (IntKind.wrap .i64 (p2 * (37 : Int))) (2 ^ min ((9 : Int)).toNat (IntKind.bits .i64))) (1 : Int)))), x42)))))] : List T13).length) * 88 ≤ 140737488355328) = true then chk3 (gL10_0 p0 p1 (IntKind.wrap .i64 (p2 + (1 : Int))) (p3 ++ ([((x24.getD p2.toNat (⟨#[]⟩ : ByteArray)), (x25, (false, ((IntKind.wrap .i64 ((bits .and .i64 (Int.fdiv (IntKind.wrap .i64 (p2 * (37 : Int))) (2 ^ min ((8 : Int)).toNat (IntKind.bits .i64))) (1 : Int)) + (1 : Int))), ((IntKind.wrap .i64 ((IntKind.wrap .i64 ((bits .and .i64 (Int.fdiv (IntKind.wrap .i64 (p2 * (37 : Int))) (2 ^ min ((8 : Int)).toNat (IntKind.bits .i64))) (1 : Int)) + (1 : Int))) + (bits .and .i64 (Int.fdiv (IntKind.wrap .i64 (p2 * (37 : Int))) (2 ^ min ((9 : Int)).toNat (IntKind.bits .i64))) (1 : Int)))), x42)))))] : List T13)) p4 p5 K) else none)))
                      else
                       (chk2 (gF18 (Int.fdiv (IntKind.wrap .i64 (p2 * (37 : Int))) (2 ^ min ((10 : Int)).toNat (IntKind.bits .i64))) (x24.getD p2.toNat (⟨#[]⟩ : ByteArray)) (⟨#[97]⟩ : ByteArray) fun x43 =>
                        chk6 (if decide ((p3.length + ([((x24.getD p2.toNat (⟨#[]⟩ : ByteArray)), (x25, (false, ((IntKind.wrap .i64 ((bits .and .i64 (Int.fdiv (IntKind.wrap .i64 (p2 * (37 : Int))) (2 ^ min ((8 : Int)).toNat (IntKind.bits .i64))) (1 : Int)) + (1 : Int))), ((IntKind.wrap .i64 ((IntKind.wrap .i64 ((bits .and .i64 (Int.fdiv (IntKind.wrap .i64 (p2 * (37 : Int))) (2 ^ min ((8 : Int)).toNat (IntKind.bits .i64))) (1 : Int)) + (1 : Int))) + (bits .and .i64 (Int.fdiv (IntKind.wrap .i64 (p2 * (37 : Int))) (2 ^ min ((9 : Int)).toNat (IntKind.bits .i64))) (1 : Int)))), x43)))))] : List T13).length) * 88 ≤ 140737488355328) = true then chk3 (gL10_0 p0 p1 (IntKind.wrap .i64 (p2 + (1 : Int))) (p3 ++ ([((x24.getD p2.toNat (⟨#[]⟩ : ByteArray)), (x25, (false, ((IntKind.wrap .i64 ((bits .and .i64 (Int.fdiv (IntKind.wrap .i64 (p2 * (37 : Int))) (2 ^ min ((8 : Int)).toNat (IntKind.bits .i64))) (1 : Int)) + (1 : Int))), ((IntKind.wrap .i64 ((IntKind.wrap .i64 ((bits .and .i64 (Int.fdiv (IntKind.wrap .i64 (p2 * (37 : Int))) (2 ^ min ((8 : Int)).toNat (IntKind.bits .i64))) (1 : Int)) + (1 : Int))) + (bits .and .i64 (Int.fdiv (IntKind.wrap .i64 (p2 * (37 : Int))) (2 ^ min ((9 : Int)).toNat (IntKind.bits .i64))) (1 : Int)))), x43)))))] : List T13)) p4 p5 K) else none)))))
                    else
                     (none))
                   else
                    (none)))))
               else
                (chk1 (if (p2 == (0 : Int)) = true then
                  (chk3 (gF18 (Int.fdiv (IntKind.wrap .i64 (p2 * (37 : Int))) (2 ^ min ((10 : Int)).toNat (IntKind.bits .i64))) (x24.getD p2.toNat (⟨#[]⟩ : ByteArray)) (x24.getD p2.toNat (⟨#[]⟩ : ByteArray)) fun x44 =>
                   chk6 (if decide ((p3.length + ([((x24.getD p2.toNat (⟨#[]⟩ : ByteArray)), (x25, (false, ((1 : Int), ((1 : Int), x44)))))] : List T13).length) * 88 ≤ 140737488355328) = true then chk3 (gL10_0 p0 p1 (IntKind.wrap .i64 (p2 + (1 : Int))) (p3 ++ ([((x24.getD p2.toNat (⟨#[]⟩ : ByteArray)), (x25, (false, ((1 : Int), ((1 : Int), x44)))))] : List T13)) p4 p5 K) else none)))
                 else
                  (if (true && (true && decide ((0 : Int) < (p3.length : Int)))) = true then
                   (if decide ((0 : Int).toNat < p3.length) = true then
                    (chk1 (if (((((((p3.getD ((0 : Int).toNat) ((⟨#[]⟩ : ByteArray), (([] : List ByteArray), (false, ((0 : Int), ((0 : Int), ([] : List T7))))))).2).2).2).2).1) != (1 : Int)) = true then
                      (chk2 (gF18 (Int.fdiv (IntKind.wrap .i64 (p2 * (37 : Int))) (2 ^ min ((10 : Int)).toNat (IntKind.bits .i64))) (x24.getD p2.toNat (⟨#[]⟩ : ByteArray)) (x24.getD p2.toNat (⟨#[]⟩ : ByteArray)) fun x45 =>
                       chk6 (if decide ((p3.length + ([((x24.getD p2.toNat (⟨#[]⟩ : ByteArray)), (x25, (false, ((1 : Int), ((1 : Int), x45)))))] : List T13).length) * 88 ≤ 140737488355328) = true then chk3 (gL10_0 p0 p1 (IntKind.wrap .i64 (p2 + (1 : Int))) (p3 ++ ([((x24.getD p2.toNat (⟨#[]⟩ : ByteArray)), (x25, (false, ((1 : Int), ((1 : Int), x45)))))] : List T13)) p4 p5 K) else none)))
                     else
                      (chk2 (gF18 (Int.fdiv (IntKind.wrap .i64 (p2 * (37 : Int))) (2 ^ min ((10 : Int)).toNat (IntKind.bits .i64))) (x24.getD p2.toNat (⟨#[]⟩ : ByteArray)) (⟨#[97]⟩ : ByteArray) fun x46 =>
                       chk6 (if decide ((p3.length + ([((x24.getD p2.toNat (⟨#[]⟩ : ByteArray)), (x25, (false, ((1 : Int), ((1 : Int), x46)))))] : List T13).length) * 88 ≤ 140737488355328) = true then chk3 (gL10_0 p0 p1 (IntKind.wrap .i64 (p2 + (1 : Int))) (p3 ++ ([((x24.getD p2.toNat (⟨#[]⟩ : ByteArray)), (x25, (false, ((1 : Int), ((1 : Int), x46)))))] : List T13)) p4 p5 K) else none)))))
                   else
                    (none))
                  else
                   (none)))))))))))
        else
         (none))))))
   else
    (K (p2, p3)))
def L10_0 : Nat → (T15 → Option Res) → (List Int) → Int → Int → T14 → Int → Int → (Int × T14 → Option Res) → Option Res
  | 0, _, _, _, _, _, _, _, _ => none
  | k + 1, κ, p0, p1, p2, p3, p4, p5, K => L10_0_B (F16 k) (F17 k) (F18 k) (fun p0 p1 p2 p3 p4 p5 K => L10_0 k κ p0 p1 p2 p3 p4 p5 K) κ p0 p1 p2 p3 p4 p5 K
def L10_0_s : Tr SC := Tr.of (nthD (.one .undef) [.one (.list (.int .i64) .no), .one .undef, .one (.ref 2 0), .one .undef, .one (.int .i64), .one (.int .i64)]) 7
def L10_0_b : Tr (List SC) := Tr.of (nthD [] [[], [], [.one (.list (.pair .str (.pair (.list .str) (.pair .bool (.pair (.int .i64) (.pair (.int .i64) (.list (.pair (.int .i64) (.pair (.pair (.int .i64) (.pair (.int .i64) (.pair .str .bool))) (.pair .str .str))))))))) (.own false false)), .one (.int .i64), .one (.int .i64)]]) 7
def L10_0_m (g : (List Int) → Int → Int → T14 → Int → Int → (Int × T14 → Option Res) → Option Res) (lf : LoopF) : LoopF := fun p σ K => match pathEq p [true, true, true, true, true, true, false, true, false] with
  | true => match okSt 118 L10_0_s L10_0_b σ with
    | true => g (listOf (.int .i64) (Tr.val .undef σ.slots)) (intOf (Tr.val .undef (Tr.lft (Tr.rgt σ.slots)))) (intOf (Tr.val .undef (Tr.rgt (Tr.lft σ.slots)))) (listOf (.pair .str (.pair (.list .str) (.pair .bool (.pair (.int .i64) (.pair (.int .i64) (.list (.pair (.int .i64) (.pair (.pair (.int .i64) (.pair (.int .i64) (.pair .str .bool))) (.pair .str .str))))))))) (nth (Tr.val [] (Tr.rgt σ.boxes)) 0)) (intOf (nth (Tr.val [] (Tr.rgt σ.boxes)) 1)) (intOf (nth (Tr.val [] (Tr.rgt σ.boxes)) 2)) (fun v => K (.exit 0) ⟨118, Tr.of (nthD .undef [.list (.int .i64) (listOf (.int .i64) (Tr.val .undef σ.slots)) .no, .undef, .ref 2 0, .undef, .int .i64 (intOf (Tr.val .undef (Tr.lft (Tr.rgt σ.slots)))), .int .i64 v.1]) 7, Tr.of (nthD [] [[], [], [.list (.pair .str (.pair (.list .str) (.pair .bool (.pair (.int .i64) (.pair (.int .i64) (.list (.pair (.int .i64) (.pair (.pair (.int .i64) (.pair (.int .i64) (.pair .str .bool))) (.pair .str .str))))))))) v.2 (.own false false), .int .i64 (intOf (nth (Tr.val [] (Tr.rgt σ.boxes)) 1)), .int .i64 (intOf (nth (Tr.val [] (Tr.rgt σ.boxes)) 2))]]) 7⟩)
    | false => lf p σ K
  | false => lf p σ K
theorem L10_0_d (k : Nat) (κ : Res → Option Res) (h : ∀ (p0 : (List Int)) (p1 : Int) (p2 : Int) (p3 : T14) (p4 : Int) (p5 : Int) (K : Cont), (ev Try.prog cfg k).loop 10 0 κ [true, true, true, true, true, true, false, true, false] ⟨118, Tr.of (nthD .undef [.list (.int .i64) p0 .no, .undef, .ref 2 0, .undef, .int .i64 p1, .int .i64 p2]) 7, Tr.of (nthD [] [[], [], [.list (.pair .str (.pair (.list .str) (.pair .bool (.pair (.int .i64) (.pair (.int .i64) (.list (.pair (.int .i64) (.pair (.pair (.int .i64) (.pair (.int .i64) (.pair .str .bool))) (.pair .str .str))))))))) p3 (.own false false), .int .i64 p4, .int .i64 p5]]) 7⟩ K = L10_0 k (fun x => κ ((.agg [.list (.pair .str (.pair (.list .str) (.pair .bool (.pair (.int .i64) (.pair (.int .i64) (.list (.pair (.int .i64) (.pair (.pair (.int .i64) (.pair (.int .i64) (.pair .str .bool))) (.pair .str .str))))))))) x.1 .no, .int .i64 x.2.1, .int .i64 x.2.2], []) : Res)) p0 p1 p2 p3 p4 p5 (fun v => K (.exit 0) ⟨118, Tr.of (nthD .undef [.list (.int .i64) p0 .no, .undef, .ref 2 0, .undef, .int .i64 p1, .int .i64 v.1]) 7, Tr.of (nthD [] [[], [], [.list (.pair .str (.pair (.list .str) (.pair .bool (.pair (.int .i64) (.pair (.int .i64) (.list (.pair (.int .i64) (.pair (.pair (.int .i64) (.pair (.int .i64) (.pair .str .bool))) (.pair .str .str))))))))) v.2 (.own false false), .int .i64 p4, .int .i64 p5]]) 7⟩)) : L10_0_m (L10_0 k (fun x => κ ((.agg [.list (.pair .str (.pair (.list .str) (.pair .bool (.pair (.int .i64) (.pair (.int .i64) (.list (.pair (.int .i64) (.pair (.pair (.int .i64) (.pair (.int .i64) (.pair .str .bool))) (.pair .str .str))))))))) x.1 .no, .int .i64 x.2.1, .int .i64 x.2.2], []) : Res))) ((ev Try.prog cfg k).loop 10 0 κ) = (ev Try.prog cfg k).loop 10 0 κ := by
  funext p σ K
  unfold L10_0_m
  split
  · rename_i hp
    split
    · rename_i hs
      have e : mkSt 118 L10_0_s L10_0_b σ = ⟨118, Tr.of (nthD .undef [.list (.int .i64) (listOf (.int .i64) (Tr.val .undef σ.slots)) .no, .undef, .ref 2 0, .undef, .int .i64 (intOf (Tr.val .undef (Tr.lft (Tr.rgt σ.slots)))), .int .i64 (intOf (Tr.val .undef (Tr.rgt (Tr.lft σ.slots))))]) 7, Tr.of (nthD [] [[], [], [.list (.pair .str (.pair (.list .str) (.pair .bool (.pair (.int .i64) (.pair (.int .i64) (.list (.pair (.int .i64) (.pair (.pair (.int .i64) (.pair (.int .i64) (.pair .str .bool))) (.pair .str .str))))))))) (listOf (.pair .str (.pair (.list .str) (.pair .bool (.pair (.int .i64) (.pair (.int .i64) (.list (.pair (.int .i64) (.pair (.pair (.int .i64) (.pair (.int .i64) (.pair .str .bool))) (.pair .str .str))))))))) (nth (Tr.val [] (Tr.rgt σ.boxes)) 0)) (.own false false), .int .i64 (intOf (nth (Tr.val [] (Tr.rgt σ.boxes)) 1)), .int .i64 (intOf (nth (Tr.val [] (Tr.rgt σ.boxes)) 2))]]) 7⟩ := by kernel_rfl
      rw [pathEq_eq hp]
      exact (h (listOf (.int .i64) (Tr.val .undef σ.slots)) (intOf (Tr.val .undef (Tr.lft (Tr.rgt σ.slots)))) (intOf (Tr.val .undef (Tr.rgt (Tr.lft σ.slots)))) (listOf (.pair .str (.pair (.list .str) (.pair .bool (.pair (.int .i64) (.pair (.int .i64) (.list (.pair (.int .i64) (.pair (.pair (.int .i64) (.pair (.int .i64) (.pair .str .bool))) (.pair .str .str))))))))) (nth (Tr.val [] (Tr.rgt σ.boxes)) 0)) (intOf (nth (Tr.val [] (Tr.rgt σ.boxes)) 1)) (intOf (nth (Tr.val [] (Tr.rgt σ.boxes)) 2)) K).symm.trans (congrArg (fun s => (ev Try.prog cfg k).loop 10 0 κ [true, true, true, true, true, true, false, true, false] s K) (e.symm.trans (okSt_eq hs).symm))
    · rfl
  · rfl
theorem L10_0_k (gF16 : tF16) (gF17 : tF17) (gF18 : tF18) (gL10_0 : tL10_0) (cf : CallF) (lf : LoopF) (κ : Res → Option Res) (p0 : (List Int)) (p1 : Int) (p2 : Int) (p3 : T14) (p4 : Int) (p5 : Int) (K : Cont) : evLp Try.prog cfg (F16_m gF16 (F17_m gF17 (F18_m gF18 cf))) (L10_0_m gL10_0 lf) 10 0 κ [true, true, true, true, true, true, false, true, false] ⟨118, Tr.of (nthD .undef [.list (.int .i64) p0 .no, .undef, .ref 2 0, .undef, .int .i64 p1, .int .i64 p2]) 7, Tr.of (nthD [] [[], [], [.list (.pair .str (.pair (.list .str) (.pair .bool (.pair (.int .i64) (.pair (.int .i64) (.list (.pair (.int .i64) (.pair (.pair (.int .i64) (.pair (.int .i64) (.pair .str .bool))) (.pair .str .str))))))))) p3 (.own false false), .int .i64 p4, .int .i64 p5]]) 7⟩ K = L10_0_B gF16 gF17 gF18 gL10_0 (fun x => κ ((.agg [.list (.pair .str (.pair (.list .str) (.pair .bool (.pair (.int .i64) (.pair (.int .i64) (.list (.pair (.int .i64) (.pair (.pair (.int .i64) (.pair (.int .i64) (.pair .str .bool))) (.pair .str .str))))))))) x.1 .no, .int .i64 x.2.1, .int .i64 x.2.2], []) : Res)) p0 p1 p2 p3 p4 p5 (fun v => K (.exit 0) ⟨118, Tr.of (nthD .undef [.list (.int .i64) p0 .no, .undef, .ref 2 0, .undef, .int .i64 p1, .int .i64 v.1]) 7, Tr.of (nthD [] [[], [], [.list (.pair .str (.pair (.list .str) (.pair .bool (.pair (.int .i64) (.pair (.int .i64) (.list (.pair (.int .i64) (.pair (.pair (.int .i64) (.pair (.int .i64) (.pair .str .bool))) (.pair .str .str))))))))) v.2 (.own false false), .int .i64 p4, .int .i64 p5]]) 7⟩) := by
  kernel_rfl
theorem L10_0_ev : ∀ (k : Nat) (κ : Res → Option Res) (p0 : (List Int)) (p1 : Int) (p2 : Int) (p3 : T14) (p4 : Int) (p5 : Int) (K : Cont), (ev Try.prog cfg k).loop 10 0 κ [true, true, true, true, true, true, false, true, false] ⟨118, Tr.of (nthD .undef [.list (.int .i64) p0 .no, .undef, .ref 2 0, .undef, .int .i64 p1, .int .i64 p2]) 7, Tr.of (nthD [] [[], [], [.list (.pair .str (.pair (.list .str) (.pair .bool (.pair (.int .i64) (.pair (.int .i64) (.list (.pair (.int .i64) (.pair (.pair (.int .i64) (.pair (.int .i64) (.pair .str .bool))) (.pair .str .str))))))))) p3 (.own false false), .int .i64 p4, .int .i64 p5]]) 7⟩ K = L10_0 k (fun x => κ ((.agg [.list (.pair .str (.pair (.list .str) (.pair .bool (.pair (.int .i64) (.pair (.int .i64) (.list (.pair (.int .i64) (.pair (.pair (.int .i64) (.pair (.int .i64) (.pair .str .bool))) (.pair .str .str))))))))) x.1 .no, .int .i64 x.2.1, .int .i64 x.2.2], []) : Res)) p0 p1 p2 p3 p4 p5 (fun v => K (.exit 0) ⟨118, Tr.of (nthD .undef [.list (.int .i64) p0 .no, .undef, .ref 2 0, .undef, .int .i64 p1, .int .i64 v.1]) 7, Tr.of (nthD [] [[], [], [.list (.pair .str (.pair (.list .str) (.pair .bool (.pair (.int .i64) (.pair (.int .i64) (.list (.pair (.int .i64) (.pair (.pair (.int .i64) (.pair (.int .i64) (.pair .str .bool))) (.pair .str .str))))))))) v.2 (.own false false), .int .i64 p4, .int .i64 p5]]) 7⟩) := by
  intro k κ
  induction k with
  | zero => intro p0 p1 p2 p3 p4 p5 K; rfl
  | succ k ih =>
    intro p0 p1 p2 p3 p4 p5 K
    rw [ev_loop, ← F16_d k (F16_ev k), ← F17_d k (F17_ev k), ← F18_d k (F18_ev k), ← L10_0_d k κ ih]
    exact L10_0_k _ _ _ _ _ _ κ p0 p1 p2 p3 p4 p5 K
def F10_B (gF16 : tF16) (gF17 : tF17) (gF18 : tF18) (gL10_0 : tL10_0) (a0 : (List Int)) (κ : T15 → Option Res) : Option Res :=
  chk3 (if decide ((a0.length : Int) > (0 : Int)) = true then
    (if (true && (true && decide ((0 : Int) < (a0.length : Int)))) = true then
     (chk8 (chk7 (if (true && (decide ((0 : Int) ≤ (bits .and .i64 (Int.fdiv (bits .and .i64 (a0.getD (0 : Int).toNat (0 : Int)) (16777215 : Int)) (2 ^ min ((6 : Int)).toNat (IntKind.bits .i64))) (3 : Int))) && decide ((bits .and .i64 (Int.fdiv (bits .and .i64 (a0.getD (0 : Int).toNat (0 : Int)) (16777215 : Int)) (2 ^ min ((6 : Int)).toNat (IntKind.bits .i64))) (3 : Int)) < (([(100 : Int), (100 : Int), (200 : Int), (1000 : Int)] : List Int).length : Int)))) = true then
        (chk2 (gL10_0 a0 (IntKind.wrap .i64 ((bits .and .i64 (bits .and .i64 (a0.getD (0 : Int).toNat (0 : Int)) (16777215 : Int)) (3 : Int)) + (1 : Int))) (0 : Int) ([] : List T13) (IntKind.wrap .i64 ((bits .and .i64 (Int.fdiv (bits .and .i64 (a0.getD (0 : Int).toNat (0 : Int)) (16777215 : Int)) (2 ^ min ((2 : Int)).toNat (IntKind.bits .i64))) (15 : Int)) + (1 : Int))) (([(100 : Int), (100 : Int), (200 : Int), (1000 : Int)] : List Int).getD (bits .and .i64 (Int.fdiv (bits .and .i64 (a0.getD (0 : Int).toNat (0 : Int)) (16777215 : Int)) (2 ^ min ((6 : Int)).toNat (IntKind.bits .i64))) (3 : Int)).toNat (0 : Int)) fun v47 =>
         chk2 (κ (v47.2, ((IntKind.wrap .i64 ((bits .and .i64 (Int.fdiv (bits .and .i64 (a0.getD (0 : Int).toNat (0 : Int)) (16777215 : Int)) (2 ^ min ((2 : Int)).toNat (IntKind.bits .i64))) (15 : Int)) + (1 : Int))), (([(100 : Int), (100 : Int), (200 : Int), (1000 : Int)] : List Int).getD (bits .and .i64 (Int.fdiv (bits .and .i64 (a0.getD (0 : Int).toNat (0 : Int)) (16777215 : Int)) (2 ^ min ((6 : Int)).toNat (IntKind.bits .i64))) (3 : Int)).toNat (0 : Int)))))))
       else
        (none))))
    else
     (none))
   else
    (chk8 (chk6 (if (true && (decide ((0 : Int) ≤ (bits .and .i64 (Int.fdiv (0 : Int) (2 ^ min ((6 : Int)).toNat (IntKind.bits .i64))) (3 : Int))) && decide ((bits .and .i64 (Int.fdiv (0 : Int) (2 ^ min ((6 : Int)).toNat (IntKind.bits .i64))) (3 : Int)) < (([(100 : Int), (100 : Int), (200 : Int), (1000 : Int)] : List Int).length : Int)))) = true then
       (chk2 (gL10_0 a0 (IntKind.wrap .i64 ((bits .and .i64 (0 : Int) (3 : Int)) + (1 : Int))) (0 : Int) ([] : List T13) (IntKind.wrap .i64 ((bits .and .i64 (Int.fdiv (0 : Int) (2 ^ min ((2 : Int)).toNat (IntKind.bits .i64))) (15 : Int)) + (1 : Int))) (([(100 : Int), (100 : Int), (200 : Int), (1000 : Int)] : List Int).getD (bits .and .i64 (Int.fdiv (0 : Int) (2 ^ min ((6 : Int)).toNat (IntKind.bits .i64))) (3 : Int)).toNat (0 : Int)) fun v48 =>
        chk2 (κ (v48.2, ((IntKind.wrap .i64 ((bits .and .i64 (Int.fdiv (0 : Int) (2 ^ min ((2 : Int)).toNat (IntKind.bits .i64))) (15 : Int)) + (1 : Int))), (([(100 : Int), (100 : Int), (200 : Int), (1000 : Int)] : List Int).getD (bits .and .i64 (Int.fdiv (0 : Int) (2 ^ min ((6 : Int)).toNat (IntKind.bits .i64))) (3 : Int)).toNat (0 : Int)))))))
      else
       (none)))))
/-- lamplighter/lamplighterref16.Query -/
def F10 : Nat → (List Int) → (T15 → Option Res) → Option Res
  | 0, _, _ => none
  | k + 1, a0, κ => F10_B (F16 k) (F17 k) (F18 k) (L10_0 k κ) a0 κ
def F10_s : List SC := [.one (.list (.int .i64) .no)]
def F10_b : List (List SC) := []
def F10_m (g : (List Int) → (T15 → Option Res) → Option Res) (cf : CallF) : CallF := fun f args lent κ => match Nat.beq f 10 with
  | true => match okC F10_s args && okB F10_b lent with
    | true => g (listOf (.int .i64) (nth args 0)) (fun x => κ ((.agg [.list (.pair .str (.pair (.list .str) (.pair .bool (.pair (.int .i64) (.pair (.int .i64) (.list (.pair (.int .i64) (.pair (.pair (.int .i64) (.pair (.int .i64) (.pair .str .bool))) (.pair .str .str))))))))) x.1 .no, .int .i64 x.2.1, .int .i64 x.2.2], []) : Res))
    | false => cf f args lent κ
  | false => cf f args lent κ
theorem F10_d (k : Nat) (h : ∀ (a0 : (List Int)) (κ : Res → Option Res), (ev Try.prog cfg k).call 10 [.list (.int .i64) a0 .no] [] κ = F10 k a0 (fun x => κ ((.agg [.list (.pair .str (.pair (.list .str) (.pair .bool (.pair (.int .i64) (.pair (.int .i64) (.list (.pair (.int .i64) (.pair (.pair (.int .i64) (.pair (.int .i64) (.pair .str .bool))) (.pair .str .str))))))))) x.1 .no, .int .i64 x.2.1, .int .i64 x.2.2], []) : Res))) : F10_m (F10 k) (ev Try.prog cfg k).call = (ev Try.prog cfg k).call := by
  funext f args lent κ
  unfold F10_m
  split
  · rename_i hp
    split
    · rename_i hs
      rw [Bool.and_eq_true] at hs
      have e : mkC F10_s 0 args = [.list (.int .i64) (listOf (.int .i64) (nth args 0)) .no] := by kernel_rfl
      have e' : mkB F10_b 0 lent = [] := by kernel_rfl
      obtain rfl := Nat.eq_of_beq_eq_true hp
      exact (h (listOf (.int .i64) (nth args 0)) κ).symm.trans (cong2 (fun a l => (ev Try.prog cfg k).call 10 a l κ) (e.symm.trans (okC_eq hs.1).symm) (e'.symm.trans (okB_eq hs.2).symm))
    · rfl
  · rfl
theorem F10_k (gF16 : tF16) (gF17 : tF17) (gF18 : tF18) (gL10_0 : tL10_0) (cf : CallF) (lf : LoopF) (a0 : (List Int)) (κ : Res → Option Res) : evFn Try.prog cfg (F16_m gF16 (F17_m gF17 (F18_m gF18 cf))) (L10_0_m gL10_0 lf) 10 [.list (.int .i64) a0 .no] [] κ = F10_B gF16 gF17 gF18 gL10_0 a0 (fun x => κ ((.agg [.list (.pair .str (.pair (.list .str) (.pair .bool (.pair (.int .i64) (.pair (.int .i64) (.list (.pair (.int .i64) (.pair (.pair (.int .i64) (.pair (.int .i64) (.pair .str .bool))) (.pair .str .str))))))))) x.1 .no, .int .i64 x.2.1, .int .i64 x.2.2], []) : Res)) := by
  kernel_rfl
theorem F10_ev : ∀ (k : Nat) (a0 : (List Int)) (κ : Res → Option Res), (ev Try.prog cfg k).call 10 [.list (.int .i64) a0 .no] [] κ = F10 k a0 (fun x => κ ((.agg [.list (.pair .str (.pair (.list .str) (.pair .bool (.pair (.int .i64) (.pair (.int .i64) (.list (.pair (.int .i64) (.pair (.pair (.int .i64) (.pair (.int .i64) (.pair .str .bool))) (.pair .str .str))))))))) x.1 .no, .int .i64 x.2.1, .int .i64 x.2.2], []) : Res)) := by
  intro k
  induction k with
  | zero => intros; rfl
  | succ k ih =>
    intro a0 κ
    refine (ev_call' Try.prog cfg k 10 0 _ _ κ (by rfl)).trans ?_
    rw [← F16_d k (F16_ev k), ← F17_d k (F17_ev k), ← F18_d k (F18_ev k), ← L10_0_d k κ (L10_0_ev k κ)]
    exact F10_k _ _ _ _ _ _ a0 κ
def F3_B (gF7 : tF7) (gF6 : tF6) (gF8 : tF8) (gF10 : tF10) (gF9 : tF9) (gF9v1 : tF9v1) (a0 : (List Int)) (κ : Bool → Option Res) : Option Res :=
  chk1 (gF7  fun x1 =>
   chk2 (gF6 x1 (fun x2 =>
     chk2 (gF8  fun x3 =>
      chk1 (if x3 = true then
        (chk1 (gF10 a0 fun x4 =>
         chk2 (gF9 x4 fun x5 =>
          chk2 (κ (x5 == (0 : Int))))))
       else
        (κ false)))) (fun x6 =>
     chk2 (gF8  fun x7 =>
      chk1 (if x7 = true then
        (chk1 (gF10 a0 fun x8 =>
         chk2 (gF9v1 x8 x6.2 fun x9 =>
          chk2 (κ (x9.1 == (0 : Int))))))
       else
        (κ false))))))
/-- lamplighter/lamplighterlaw18.CheckMade -/
def F3 : Nat → (List Int) → (Bool → Option Res) → Option Res
  | 0, _, _ => none
  | k + 1, a0, κ => F3_B (F7 k) (F6 k) (F8 k) (F10 k) (F9 k) (F9v1 k) a0 κ
def F3_s : List SC := [.one (.list (.int .i64) .no)]
def F3_b : List (List SC) := []
def F3_m (g : (List Int) → (Bool → Option Res) → Option Res) (cf : CallF) : CallF := fun f args lent κ => match Nat.beq f 3 with
  | true => match okC F3_s args && okB F3_b lent with
    | true => g (listOf (.int .i64) (nth args 0)) (fun x => κ ((.bool x, []) : Res))
    | false => cf f args lent κ
  | false => cf f args lent κ
theorem F3_d (k : Nat) (h : ∀ (a0 : (List Int)) (κ : Res → Option Res), (ev Try.prog cfg k).call 3 [.list (.int .i64) a0 .no] [] κ = F3 k a0 (fun x => κ ((.bool x, []) : Res))) : F3_m (F3 k) (ev Try.prog cfg k).call = (ev Try.prog cfg k).call := by
  funext f args lent κ
  unfold F3_m
  split
  · rename_i hp
    split
    · rename_i hs
      rw [Bool.and_eq_true] at hs
      have e : mkC F3_s 0 args = [.list (.int .i64) (listOf (.int .i64) (nth args 0)) .no] := by kernel_rfl
      have e' : mkB F3_b 0 lent = [] := by kernel_rfl
      obtain rfl := Nat.eq_of_beq_eq_true hp
      exact (h (listOf (.int .i64) (nth args 0)) κ).symm.trans (cong2 (fun a l => (ev Try.prog cfg k).call 3 a l κ) (e.symm.trans (okC_eq hs.1).symm) (e'.symm.trans (okB_eq hs.2).symm))
    · rfl
  · rfl
theorem F3_k (gF7 : tF7) (gF6 : tF6) (gF8 : tF8) (gF10 : tF10) (gF9 : tF9) (gF9v1 : tF9v1) (cf : CallF) (lf : LoopF) (a0 : (List Int)) (κ : Res → Option Res) : evFn Try.prog cfg (F7_m gF7 (F6_m gF6 (F8_m gF8 (F10_m gF10 (F9_m gF9 (F9v1_m gF9v1 cf)))))) lf 3 [.list (.int .i64) a0 .no] [] κ = F3_B gF7 gF6 gF8 gF10 gF9 gF9v1 a0 (fun x => κ ((.bool x, []) : Res)) := by
  kernel_rfl
theorem F3_ev : ∀ (k : Nat) (a0 : (List Int)) (κ : Res → Option Res), (ev Try.prog cfg k).call 3 [.list (.int .i64) a0 .no] [] κ = F3 k a0 (fun x => κ ((.bool x, []) : Res)) := by
  intro k
  induction k with
  | zero => intros; rfl
  | succ k ih =>
    intro a0 κ
    refine (ev_call' Try.prog cfg k 3 0 _ _ κ (by rfl)).trans ?_
    rw [← F7_d k (F7_ev k), ← F6_d k (F6_ev k), ← F8_d k (F8_ev k), ← F10_d k (F10_ev k), ← F9_d k (F9_ev k), ← F9v1_d k (F9v1_ev k)]
    exact F3_k _ _ _ _ _ _ _ _ a0 κ
end Go.Proofs.Ytfdgjpeanffknaa.ChM
