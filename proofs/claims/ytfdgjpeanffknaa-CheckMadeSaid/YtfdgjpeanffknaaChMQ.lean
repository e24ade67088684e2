/- What lamplighterref16.Query makes of picks. No condition. -/
import Derived.Test.YtfdgjpeanffknaaChMKind
namespace Go.Proofs.Ytfdgjpeanffknaa.ChM
open Go Go.Proofs.Ytfdgjpeanffknaa.Vm
set_option linter.unusedVariables false
set_option linter.unusedSimpArgs false
set_option maxRecDepth 100000
def L10_N (gF16 : tF16) (gF17 : tF17) (gF18 : tF18) (gL10_0 : tL10_0) (κ : T15 → Option Res) (p0 : (List Int)) (p1 : Int) (p2 : Int) (p3 : T14) (p4 : Int) (p5 : Int) (K : Int × T14 → Option Res)  (y : Int) : Option Res :=
  (gF16  fun x1 =>
         if (true && (decide ((0 : Int) ≤ p2) && decide (p2 < (x1.length : Int)))) = true then
           (gF17 y fun x2 =>
            if decide (p2 > (0 : Int)) = true then
               (if decide (p2 < (IntKind.wrap .i64 (p1 - (1 : Int)))) = true then
                 (if (!((bits .and .i64 (Int.fdiv y (2 ^ min ((4 : Int)).toNat (IntKind.bits .i64))) (3 : Int)) == (0 : Int))) = true then
                   (if ((bits .and .i64 (Int.fdiv y (2 ^ min ((6 : Int)).toNat (IntKind.bits .i64))) (3 : Int)) == (0 : Int)) = true then
                     (if (p2 == (0 : Int)) = true then
                        (gF18 (Int.fdiv y (2 ^ min ((10 : Int)).toNat (IntKind.bits .i64))) (x1.getD p2.toNat (⟨#[]⟩ : ByteArray)) (x1.getD p2.toNat (⟨#[]⟩ : ByteArray)) fun x3 =>
                         if decide ((p3.length + ([((x1.getD p2.toNat (⟨#[]⟩ : ByteArray)), (x2, (((bits .and .i64 (Int.fdiv y (2 ^ min ((4 : Int)).toNat (IntKind.bits .i64))) (3 : Int)) == (0 : Int)), ((IntKind.wrap .i64 ((bits .and .i64 (Int.fdiv y (2 ^ min ((8 : Int)).toNat (IntKind.bits .i64))) (1 : Int)) + (1 : Int))), ((IntKind.wrap .i64 ((IntKind.wrap .i64 ((bits .and .i64 (Int.fdiv y (2 ^ min ((8 : Int)).toNat (IntKind.bits .i64))) (1 : Int)) + (1 : Int))) + (bits .and .i64 (Int.fdiv y (2 ^ min ((9 : Int)).toNat (IntKind.bits .i64))) (1 : Int)))), x3)))))] : List T13).length) * 88 ≤ 140737488355328) = true then gL10_0 p0 p1 (IntKind.wrap .i64 (p2 + (1 : Int))) (p3 ++ ([((x1.getD p2.toNat (⟨#[]⟩ : ByteArray)), (x2, (((bits .and .i64 (Int.fdiv y (2 ^ min ((4 : Int)).toNat (IntKind.bits .i64))) (3 : Int)) == (0 : Int)), ((IntKind.wrap .i64 ((bits .and .i64 (Int.fdiv y (2 ^ min ((8 : Int)).toNat (IntKind.bits .i64))) (1 : Int)) + (1 : Int))), ((IntKind.wrap .i64 ((IntKind.wrap .i64 ((bits .and .i64 (Int.fdiv y (2 ^ min ((8 : Int)).toNat (IntKind.bits .i64))) (1 : Int)) + (1 : Int))) + (bits .and .i64 (Int.fdiv y (2 ^ min ((9 : Int)).toNat (IntKind.bits .i64))) (1 : Int)))), x3)))))] : List T13)) p4 p5 K else none)
                       else
                        (if (true && (true && decide ((0 : Int) < (p3.length : Int)))) = true then
                         (if decide ((0 : Int).toNat < p3.length) = true then
                          (if (((((((p3.getD ((0 : Int).toNat) ((⟨#[]⟩ : ByteArray), (([] : List ByteArray), (false, ((0 : Int), ((0 : Int), ([] : List T7))))))).2).2).2).2).1) != (1 : Int)) = true then
                            (gF18 (Int.fdiv y (2 ^ min ((10 : Int)).toNat (IntKind.bits .i64))) (x1.getD p2.toNat (⟨#[]⟩ : ByteArray)) (x1.getD p2.toNat (⟨#[]⟩ : ByteArray)) fun x4 =>
                             if decide ((p3.length + ([((x1.getD p2.toNat (⟨#[]⟩ : ByteArray)), (x2, (((bits .and .i64 (Int.fdiv y (2 ^ min ((4 : Int)).toNat (IntKind.bits .i64))) (3 : Int)) == (0 : Int)), ((IntKind.wrap .i64 ((bits .and .i64 (Int.fdiv y (2 ^ min ((8 : Int)).toNat (IntKind.bits .i64))) (1 : Int)) + (1 : Int))), ((IntKind.wrap .i64 ((IntKind.wrap .i64 ((bits .and .i64 (Int.fdiv y (2 ^ min ((8 : Int)).toNat (IntKind.bits .i64))) (1 : Int)) + (1 : Int))) + (bits .and .i64 (Int.fdiv y (2 ^ min ((9 : Int)).toNat (IntKind.bits .i64))) (1 : Int)))), x4)))))] : List T13).length) * 88 ≤ 140737488355328) = true then gL10_0 p0 p1 (IntKind.wrap .i64 (p2 + (1 : Int))) (p3 ++ ([((x1.getD p2.toNat (⟨#[]⟩ : ByteArray)), (x2, (((bits .and .i64 (Int.fdiv y (2 ^ min ((4 : Int)).toNat (IntKind.bits .i64))) (3 : Int)) == (0 : Int)), ((IntKind.wrap .i64 ((bits .and .i64 (Int.fdiv y (2 ^ min ((8 : Int)).toNat (IntKind.bits .i64))) (1 : Int)) + (1 : Int))), ((IntKind.wrap .i64 ((IntKind.wrap .i64 ((bits .and .i64 (Int.fdiv y (2 ^ min ((8 : Int)).toNat (IntKind.bits .i64))) (1 : Int)) + (1 : Int))) + (bits .and .i64 (Int.fdiv y (2 ^ min ((9 : Int)).toNat (IntKind.bits .i64))) (1 : Int)))), x4)))))] : List T13)) p4 p5 K else none)
                           else
                            (gF18 (Int.fdiv y (2 ^ min ((10 : Int)).toNat (IntKind.bits .i64))) (x1.getD p2.toNat (⟨#[]⟩ : ByteArray)) (⟨#[97]⟩ : ByteArray) fun x5 =>
                             if decide ((p3.length + ([((x1.getD p2.toNat (⟨#[]⟩ : ByteArray)), (x2, (((bits .and .i64 (Int.fdiv y (2 ^ min ((4 : Int)).toNat (IntKind.bits .i64))) (3 : Int)) == (0 : Int)), ((IntKind.wrap .i64 ((bits .and .i64 (Int.fdiv y (2 ^ min ((8 : Int)).toNat (IntKind.bits .i64))) (1 : Int)) + (1 : Int))), ((IntKind.wrap .i64 ((IntKind.wrap .i64 ((bits .and .i64 (Int.fdiv y (2 ^ min ((8 : Int)).toNat (IntKind.bits .i64))) (1 : Int)) + (1 : Int))) + (bits .and .i64 (Int.fdiv y (2 ^ min ((9 : Int)).toNat (IntKind.bits .i64))) (1 : Int)))), x5)))))] : List T13).length) * 88 ≤ 140737488355328) = true then gL10_0 p0 p1 (IntKind.wrap .i64 (p2 + (1 : Int))) (p3 ++ ([((x1.getD p2.toNat (⟨#[]⟩ : ByteArray)), (x2, (((bits .and .i64 (Int.fdiv y (2 ^ min ((4 : Int)).toNat (IntKind.bits .i64))) (3 : Int)) == (0 : Int)), ((IntKind.wrap .i64 ((bits .and .i64 (Int.fdiv y (2 ^ min ((8 : Int)).toNat (IntKind.bits .i64))) (1 : Int)) + (1 : Int))), ((IntKind.wrap .i64 ((IntKind.wrap .i64 ((bits .and .i64 (Int.fdiv y (2 ^ min ((8 : Int)).toNat (IntKind.bits .i64))) (1 : Int)) + (1 : Int))) + (bits .and .i64 (Int.fdiv y (2 ^ min ((9 : Int)).toNat (IntKind.bits .i64))) (1 : Int)))), x5)))))] : List T13)) p4 p5 K else none))
                         else
                          (none))
                        else
                         (none)))
                    else
                     (if (p2 == (0 : Int)) = true then
                       (gF18 (Int.fdiv y (2 ^ min ((10 : Int)).toNat (IntKind.bits .i64))) (x1.getD p2.toNat (⟨#[]⟩ : ByteArray)) (x1.getD p2.toNat (⟨#[]⟩ : ByteArray)) fun x6 =>
                        if decide ((p3.length + ([((x1.getD p2.toNat (⟨#[]⟩ : ByteArray)), (x2, (((bits .and .i64 (Int.fdiv y (2 ^ min ((4 : Int)).toNat (IntKind.bits .i64))) (3 : Int)) == (0 : Int)), ((1 : Int), ((1 : Int), x6)))))] : List T13).length) * 88 ≤ 140737488355328) = true then gL10_0 p0 p1 (IntKind.wrap .i64 (p2 + (1 : Int))) (p3 ++ ([((x1.getD p2.toNat (⟨#[]⟩ : ByteArray)), (x2, (((bits .and .i64 (Int.fdiv y (2 ^ min ((4 : Int)).toNat (IntKind.bits .i64))) (3 : Int)) == (0 : Int)), ((1 : Int), ((1 : Int), x6)))))] : List T13)) p4 p5 K else none)
                      else
                       (if (true && (true && decide ((0 : Int) < (p3.length : Int)))) = true then
                        (if decide ((0 : Int).toNat < p3.length) = true then
                         (if (((((((p3.getD ((0 : Int).toNat) ((⟨#[]⟩ : ByteArray), (([] : List ByteArray), (false, ((0 : Int), ((0 : Int), ([] : List T7))))))).2).2).2).2).1) != (1 : Int)) = true then
                           (gF18 (Int.fdiv y (2 ^ min ((10 : Int)).toNat (IntKind.bits .i64))) (x1.getD p2.toNat (⟨#[]⟩ : ByteArray)) (x1.getD p2.toNat (⟨#[]⟩ : ByteArray)) fun x7 =>
                            if decide ((p3.length + ([((x1.getD p2.toNat (⟨#[]⟩ : ByteArray)), (x2, (((bits .and .i64 (Int.fdiv y (2 ^ min ((4 : Int)).toNat (IntKind.bits .i64))) (3 : Int)) == (0 : Int)), ((1 : Int), ((1 : Int), x7)))))] : List T13).length) * 88 ≤ 140737488355328) = true then gL10_0 p0 p1 (IntKind.wrap .i64 (p2 + (1 : Int))) (p3 ++ ([((x1.getD p2.toNat (⟨#[]⟩ : ByteArray)), (x2, (((bits .and .i64 (Int.fdiv y (2 ^ min ((4 : Int)).toNat (IntKind.bits .i64))) (3 : Int)) == (0 : Int)), ((1 : Int), ((1 : Int), x7)))))] : List T13)) p4 p5 K else none)
                          else
                           (gF18 (Int.fdiv y (2 ^ min ((10 : Int)).toNat (IntKind.bits .i64))) (x1.getD p2.toNat (⟨#[]⟩ : ByteArray)) (⟨#[97]⟩ : ByteArray) fun x8 =>
                            if decide ((p3.length + ([((x1.getD p2.toNat (⟨#[]⟩ : ByteArray)), (x2, (((bits .and .i64 (Int.fdiv y (2 ^ min ((4 : Int)).toNat (IntKind.bits .i64))) (3 : Int)) == (0 : Int)), ((1 : Int), ((1 : Int), x8)))))] : List T13).length) * 88 ≤ 140737488355328) = true then gL10_0 p0 p1 (IntKind.wrap .i64 (p2 + (1 : Int))) (p3 ++ ([((x1.getD p2.toNat (⟨#[]⟩ : ByteArray)), (x2, (((bits .and .i64 (Int.fdiv y (2 ^ min ((4 : Int)).toNat (IntKind.bits .i64))) (3 : Int)) == (0 : Int)), ((1 : Int), ((1 : Int), x8)))))] : List T13)) p4 p5 K else none))
                        else
                         (none))
                       else
                        (none))))
                  else
                   (if false = true then
                    (none)
                   else
                    (if (p2 == (0 : Int)) = true then
                      (gF18 (Int.fdiv y (2 ^ min ((10 : Int)).toNat (IntKind.bits .i64))) (x1.getD p2.toNat (⟨#[]⟩ : ByteArray)) (x1.getD p2.toNat (⟨#[]⟩ : ByteArray)) fun x9 =>
                       if decide ((p3.length + ([((x1.getD p2.toNat (⟨#[]⟩ : ByteArray)), (x2, (((bits .and .i64 (Int.fdiv y (2 ^ min ((4 : Int)).toNat (IntKind.bits .i64))) (3 : Int)) == (0 : Int)), ((1 : Int), ((1 : Int), x9)))))] : List T13).length) * 88 ≤ 140737488355328) = true then gL10_0 p0 p1 (IntKind.wrap .i64 (p2 + (1 : Int))) (p3 ++ ([((x1.getD p2.toNat (⟨#[]⟩ : ByteArray)), (x2, (((bits .and .i64 (Int.fdiv y (2 ^ min ((4 : Int)).toNat (IntKind.bits .i64))) (3 : Int)) == (0 : Int)), ((1 : Int), ((1 : Int), x9)))))] : List T13)) p4 p5 K else none)
                     else
                      (if (true && (true && decide ((0 : Int) < (p3.length : Int)))) = true then
                       (if decide ((0 : Int).toNat < p3.length) = true then
                        (if (((((((p3.getD ((0 : Int).toNat) ((⟨#[]⟩ : ByteArray), (([] : List ByteArray), (false, ((0 : Int), ((0 : Int), ([] : List T7))))))).2).2).2).2).1) != (1 : Int)) = true then
                          (gF18 (Int.fdiv y (2 ^ min ((10 : Int)).toNat (IntKind.bits .i64))) (x1.getD p2.toNat (⟨#[]⟩ : ByteArray)) (x1.getD p2.toNat (⟨#[]⟩ : ByteArray)) fun x10 =>
                           if decide ((p3.length + ([((x1.getD p2.toNat (⟨#[]⟩ : ByteArray)), (x2, (((bits .and .i64 (Int.fdiv y (2 ^ min ((4 : Int)).toNat (IntKind.bits .i64))) (3 : Int)) == (0 : Int)), ((1 : Int), ((1 : Int), x10)))))] : List T13).length) * 88 ≤ 140737488355328) = true then gL10_0 p0 p1 (IntKind.wrap .i64 (p2 + (1 : Int))) (p3 ++ ([((x1.getD p2.toNat (⟨#[]⟩ : ByteArray)), (x2, (((bits .and .i64 (Int.fdiv y (2 ^ min ((4 : Int)).toNat (IntKind.bits .i64))) (3 : Int)) == (0 : Int)), ((1 : Int), ((1 : Int), x10)))))] : List T13)) p4 p5 K else none)
                         else
                          (gF18 (Int.fdiv y (2 ^ min ((10 : Int)).toNat (IntKind.bits .i64))) (x1.getD p2.toNat (⟨#[]⟩ : ByteArray)) (⟨#[97]⟩ : ByteArray) fun x11 =>
                           if decide ((p3.length + ([((x1.getD p2.toNat (⟨#[]⟩ : ByteArray)), (x2, (((bits .and .i64 (Int.fdiv y (2 ^ min ((4 : Int)).toNat (IntKind.bits .i64))) (3 : Int)) == (0 : Int)), ((1 : Int), ((1 : Int), x11)))))] : List T13).length) * 88 ≤ 140737488355328) = true then gL10_0 p0 p1 (IntKind.wrap .i64 (p2 + (1 : Int))) (p3 ++ ([((x1.getD p2.toNat (⟨#[]⟩ : ByteArray)), (x2, (((bits .and .i64 (Int.fdiv y (2 ^ min ((4 : Int)).toNat (IntKind.bits .i64))) (3 : Int)) == (0 : Int)), ((1 : Int), ((1 : Int), x11)))))] : List T13)) p4 p5 K else none))
                       else
                        (none))
                      else
                       (none)))))
                else
                 (if ((bits .and .i64 (Int.fdiv y (2 ^ min ((6 : Int)).toNat (IntKind.bits .i64))) (3 : Int)) == (0 : Int)) = true then
                   (if (p2 == (0 : Int)) = true then
                      (gF18 (Int.fdiv y (2 ^ min ((10 : Int)).toNat (IntKind.bits .i64))) (x1.getD p2.toNat (⟨#[]⟩ : ByteArray)) (x1.getD p2.toNat (⟨#[]⟩ : ByteArray)) fun x12 =>
                       if decide ((p3.length + ([((x1.getD p2.toNat (⟨#[]⟩ : ByteArray)), (x2, (false, ((IntKind.wrap .i64 ((bits .and .i64 (Int.fdiv y (2 ^ min ((8 : Int)).toNat (IntKind.bits .i64))) (1 : Int)) + (1 : Int))), ((IntKind.wrap .i64 ((IntKind.wrap .i64 ((bits .and .i64 (Int.fdiv y (2 ^ min ((8 : Int)).toNat (IntKind.bits .i64))) (1 : Int)) + (1 : Int))) + (bits .and .i64 (Int.fdiv y (2 ^ min ((9 : Int)).toNat (IntKind.bits .i64))) (1 : Int)))), x12)))))] : List T13).length) * 88 ≤ 140737488355328) = true then gL10_0 p0 p1 (IntKind.wrap .i64 (p2 + (1 : Int))) (p3 ++ ([((x1.getD p2.toNat (⟨#[]⟩ : ByteArray)), (x2, (false, ((IntKind.wrap .i64 ((bits .and .i64 (Int.fdiv y (2 ^ min ((8 : Int)).toNat (IntKind.bits .i64))) (1 : Int)) + (1 : Int))), ((IntKind.wrap .i64 ((IntKind.wrap .i64 ((bits .and .i64 (Int.fdiv y (2 ^ min ((8 : Int)).toNat (IntKind.bits .i64))) (1 : Int)) + (1 : Int))) + (bits .and .i64 (Int.fdiv y (2 ^ min ((9 : Int)).toNat (IntKind.bits .i64))) (1 : Int)))), x12)))))] : List T13)) p4 p5 K else none)
                     else
                      (if (true && (true && decide ((0 : Int) < (p3.length : Int)))) = true then
                       (if decide ((0 : Int).toNat < p3.length) = true then
                        (if (((((((p3.getD ((0 : Int).toNat) ((⟨#[]⟩ : ByteArray), (([] : List ByteArray), (false, ((0 : Int), ((0 : Int), ([] : List T7))))))).2).2).2).2).1) != (1 : Int)) = true then
                          (gF18 (Int.fdiv y (2 ^ min ((10 : Int)).toNat (IntKind.bits .i64))) (x1.getD p2.toNat (⟨#[]⟩ : ByteArray)) (x1.getD p2.toNat (⟨#[]⟩ : ByteArray)) fun x13 =>
                           if decide ((p3.length + ([((x1.getD p2.toNat (⟨#[]⟩ : ByteArray)), (x2, (false, ((IntKind.wrap .i64 ((bits .and .i64 (Int.fdiv y (2 ^ min ((8 : Int)).toNat (IntKind.bits .i64))) (1 : Int)) + (1 : Int))), ((IntKind.wrap .i64 ((IntKind.wrap .i64 ((bits .and .i64 (Int.fdiv y (2 ^ min ((8 : Int)).toNat (IntKind.bits .i64))) (1 : Int)) + (1 : Int))) + (bits .and .i64 (Int.fdiv y (2 ^ min ((9 : Int)).toNat (IntKind.bits .i64))) (1 : Int)))), x13)))))] : List T13).length) * 88 ≤ 140737488355328) = true then gL10_0 p0 p1 (IntKind.wrap .i64 (p2 + (1 : Int))) (p3 ++ ([((x1.getD p2.toNat (⟨#[]⟩ : ByteArray)), (x2, (false, ((IntKind.wrap .i64 ((bits .and .i64 (Int.fdiv y (2 ^ min ((8 : Int)).toNat (IntKind.bits .i64))) (1 : Int)) + (1 : Int))), ((IntKind.wrap .i64 ((IntKind.wrap .i64 ((bits .and .i64 (Int.fdiv y (2 ^ min ((8 : Int)).toNat (IntKind.bits .i64))) (1 : Int)) + (1 : Int))) + (bits .and .i64 (Int.fdiv y (2 ^ min ((9 : Int)).toNat (IntKind.bits .i64))) (1 : Int)))), x13)))))] : List T13)) p4 p5 K else none)
                         else
                          (gF18 (Int.fdiv y (2 ^ min ((10 : Int)).toNat (IntKind.bits .i64))) (x1.getD p2.toNat (⟨#[]⟩ : ByteArray)) (⟨#[97]⟩ : ByteArray) fun x14 =>
                           if decide ((p3.length + ([((x1.getD p2.toNat (⟨#[]⟩ : ByteArray)), (x2, (false, ((IntKind.wrap .i64 ((bits .and .i64 (Int.fdiv y (2 ^ min ((8 : Int)).toNat (IntKind.bits .i64))) (1 : Int)) + (1 : Int))), ((IntKind.wrap .i64 ((IntKind.wrap .i64 ((bits .and .i64 (Int.fdiv y (2 ^ min ((8 : Int)).toNat (IntKind.bits .i64))) (1 : Int)) + (1 : Int))) + (bits .and .i64 (Int.fdiv y (2 ^ min ((9 : Int)).toNat (IntKind.bits .i64))) (1 : Int)))), x14)))))] : List T13).length) * 88 ≤ 140737488355328) = true then gL10_0 p0 p1 (IntKind.wrap .i64 (p2 + (1 : Int))) (p3 ++ ([((x1.getD p2.toNat (⟨#[]⟩ : ByteArray)), (x2, (false, ((IntKind.wrap .i64 ((bits .and .i64 (Int.fdiv y (2 ^ min ((8 : Int)).toNat (IntKind.bits .i64))) (1 : Int)) + (1 : Int))), ((IntKind.wrap .i64 ((IntKind.wrap .i64 ((bits .and .i64 (Int.fdiv y (2 ^ min ((8 : Int)).toNat (IntKind.bits .i64))) (1 : Int)) + (1 : Int))) + (bits .and .i64 (Int.fdiv y (2 ^ min ((9 : Int)).toNat (IntKind.bits .i64))) (1 : Int)))), x14)))))] : List T13)) p4 p5 K else none))
                       else
                        (none))
                      else
                       (none)))
                  else
                   (if (p2 == (0 : Int)) = true then
                     (gF18 (Int.fdiv y (2 ^ min ((10 : Int)).toNat (IntKind.bits .i64))) (x1.getD p2.toNat (⟨#[]⟩ : ByteArray)) (x1.getD p2.toNat (⟨#[]⟩ : ByteArray)) fun x15 =>
                      if decide ((p3.length + ([((x1.getD p2.toNat (⟨#[]⟩ : ByteArray)), (x2, (false, ((1 : Int), ((1 : Int), x15)))))] : List T13).length) * 88 ≤ 140737488355328) = true then gL10_0 p0 p1 (IntKind.wrap .i64 (p2 + (1 : Int))) (p3 ++ ([((x1.getD p2.toNat (⟨#[]⟩ : ByteArray)), (x2, (false, ((1 : Int), ((1 : Int), x15)))))] : List T13)) p4 p5 K else none)
                    else
                     (if (true && (true && decide ((0 : Int) < (p3.length : Int)))) = true then
                      (if decide ((0 : Int).toNat < p3.length) = true then
                       (if (((((((p3.getD ((0 : Int).toNat) ((⟨#[]⟩ : ByteArray), (([] : List ByteArray), (false, ((0 : Int), ((0 : Int), ([] : List T7))))))).2).2).2).2).1) != (1 : Int)) = true then
                         (gF18 (Int.fdiv y (2 ^ min ((10 : Int)).toNat (IntKind.bits .i64))) (x1.getD p2.toNat (⟨#[]⟩ : ByteArray)) (x1.getD p2.toNat (⟨#[]⟩ : ByteArray)) fun x16 =>
                          if decide ((p3.length + ([((x1.getD p2.toNat (⟨#[]⟩ : ByteArray)), (x2, (false, ((1 : Int), ((1 : Int), x16)))))] : List T13).length) * 88 ≤ 140737488355328) = true then gL10_0 p0 p1 (IntKind.wrap .i64 (p2 + (1 : Int))) (p3 ++ ([((x1.getD p2.toNat (⟨#[]⟩ : ByteArray)), (x2, (false, ((1 : Int), ((1 : Int), x16)))))] : List T13)) p4 p5 K else none)
                        else
                         (gF18 (Int.fdiv y (2 ^ min ((10 : Int)).toNat (IntKind.bits .i64))) (x1.getD p2.toNat (⟨#[]⟩ : ByteArray)) (⟨#[97]⟩ : ByteArray) fun x17 =>
                          if decide ((p3.length + ([((x1.getD p2.toNat (⟨#[]⟩ : ByteArray)), (x2, (false, ((1 : Int), ((1 : Int), x17)))))] : List T13).length) * 88 ≤ 140737488355328) = true then gL10_0 p0 p1 (IntKind.wrap .i64 (p2 + (1 : Int))) (p3 ++ ([((x1.getD p2.toNat (⟨#[]⟩ : ByteArray)), (x2, (false, ((1 : Int), ((1 : Int), x17)))))] : List T13)) p4 p5 K else none))
                      else
                       (none))
                     else
                      (none)))))
              else
               (if false = true then
                (none)
               else
                (if ((bits .and .i64 (Int.fdiv y (2 ^ min ((6 : Int)).toNat (IntKind.bits .i64))) (3 : Int)) == (0 : Int)) = true then
                  (if (p2 == (0 : Int)) = true then
                     (gF18 (Int.fdiv y (2 ^ min ((10 : Int)).toNat (IntKind.bits .i64))) (x1.getD p2.toNat (⟨#[]⟩ : ByteArray)) (x1.getD p2.toNat (⟨#[]⟩ : ByteArray)) fun x18 =>
                      if decide ((p3.length + ([((x1.getD p2.toNat (⟨#[]⟩ : ByteArray)), (x2, (false, ((IntKind.wrap .i64 ((bits .and .i64 (Int.fdiv y (2 ^ min ((8 : Int)).toNat (IntKind.bits .i64))) (1 : Int)) + (1 : Int))), ((IntKind.wrap .i64 ((IntKind.wrap .i64 ((bits .and .i64 (Int.fdiv y (2 ^ min ((8 : Int)).toNat (IntKind.bits .i64))) (1 : Int)) + (1 : Int))) + (bits .and .i64 (Int.fdiv y (2 ^ min ((9 : Int)).toNat (IntKind.bits .i64))) (1 : Int)))), x18)))))] : List T13).length) * 88 ≤ 140737488355328) = true then gL10_0 p0 p1 (IntKind.wrap .i64 (p2 + (1 : Int))) (p3 ++ ([((x1.getD p2.toNat (⟨#[]⟩ : ByteArray)), (x2, (false, ((IntKind.wrap .i64 ((bits .and .i64 (Int.fdiv y (2 ^ min ((8 : Int)).toNat (IntKind.bits .i64))) (1 : Int)) + (1 : Int))), ((IntKind.wrap .i64 ((IntKind.wrap .i64 ((bits .and .i64 (Int.fdiv y (2 ^ min ((8 : Int)).toNat (IntKind.bits .i64))) (1 : Int)) + (1 : Int))) + (bits .and .i64 (Int.fdiv y (2 ^ min ((9 : Int)).toNat (IntKind.bits .i64))) (1 : Int)))), x18)))))] : List T13)) p4 p5 K else none)
                    else
                     (if (true && (true && decide ((0 : Int) < (p3.length : Int)))) = true then
                      (if decide ((0 : Int).toNat < p3.length) = true then
                       (if (((((((p3.getD ((0 : Int).toNat) ((⟨#[]⟩ : ByteArray), (([] : List ByteArray), (false, ((0 : Int), ((0 : Int), ([] : List T7))))))).2).2).2).2).1) != (1 : Int)) = true then
                         (gF18 (Int.fdiv y (2 ^ min ((10 : Int)).toNat (IntKind.bits .i64))) (x1.getD p2.toNat (⟨#[]⟩ : ByteArray)) (x1.getD p2.toNat (⟨#[]⟩ : ByteArray)) fun x19 =>
                          if decide ((p3.length + ([((x1.getD p2.toNat (⟨#[]⟩ : ByteArray)), (x2, (false, ((IntKind.wrap .i64 ((bits .and .i64 (Int.fdiv y (2 ^ min ((8 : Int)).toNat (IntKind.bits .i64))) (1 : Int)) + (1 : Int))), ((IntKind.wrap .i64 ((IntKind.wrap .i64 ((bits .and .i64 (Int.fdiv y (2 ^ min ((8 : Int)).toNat (IntKind.bits .i64))) (1 : Int)) + (1 : Int))) + (bits .and .i64 (Int.fdiv y (2 ^ min ((9 : Int)).toNat (IntKind.bits .i64))) (1 : Int)))), x19)))))] : List T13).length) * 88 ≤ 140737488355328) = true then gL10_0 p0 p1 (IntKind.wrap .i64 (p2 + (1 : Int))) (p3 ++ ([((x1.getD p2.toNat (⟨#[]⟩ : ByteArray)), (x2, (false, ((IntKind.wrap .i64 ((bits .and .i64 (Int.fdiv y (2 ^ min ((8 : Int)).toNat (IntKind.bits .i64))) (1 : Int)) + (1 : Int))), ((IntKind.wrap .i64 ((IntKind.wrap .i64 ((bits .and .i64 (Int.fdiv y (2 ^ min ((8 : Int)).toNat (IntKind.bits .i64))) (1 : Int)) + (1 : Int))) + (bits .and .i64 (Int.fdiv y (2 ^ min ((9 : Int)).toNat (IntKind.bits .i64))) (1 : Int)))), x19)))))] : List T13)) p4 p5 K else none)
                        else
                         (gF18 (Int.fdiv y (2 ^ min ((10 : Int)).toNat (IntKind.bits .i64))) (x1.getD p2.toNat (⟨#[]⟩ : ByteArray)) (⟨#[97]⟩ : ByteArray) fun x20 =>
                          if decide ((p3.length + ([((x1.getD p2.toNat (⟨#[]⟩ : ByteArray)), (x2, (false, ((IntKind.wrap .i64 ((bits .and .i64 (Int.fdiv y (2 ^ min ((8 : Int)).toNat (IntKind.bits .i64))) (1 : Int)) + (1 : Int))), ((IntKind.wrap .i64 ((IntKind.wrap .i64 ((bits .and .i64 (Int.fdiv y (2 ^ min ((8 : Int)).toNat (IntKind.bits .i64))) (1 : Int)) + (1 : Int))) + (bits .and .i64 (Int.fdiv y (2 ^ min ((9 : Int)).toNat (IntKind.bits .i64))) (1 : Int)))), x20)))))] : List T13).length) * 88 ≤ 140737488355328) = true then gL10_0 p0 p1 (IntKind.wrap .i64 (p2 + (1 : Int))) (p3 ++ ([((x1.getD p2.toNat (⟨#[]⟩ : ByteArray)), (x2, (false, ((IntKind.wrap .i64 ((bits .and .i64 (Int.fdiv y (2 ^ min ((8 : Int)).toNat (IntKind.bits .i64))) (1 : Int)) + (1 : Int))), ((IntKind.wrap .i64 ((IntKind.wrap .i64 ((bits .and .i64 (Int.fdiv y (2 ^ min ((8 : Int)).toNat (IntKind.bits .i64))) (1 : Int)) + (1 : Int))) + (bits .and .i64 (Int.fdiv y (2 ^ min ((9 : Int)).toNat (IntKind.bits .i64))) (1 : Int)))), x20)))))] : List T13)) p4 p5 K else none))
                      else
                       (none))
                     else
                      (none)))
                 else
                  (if (p2 == (0 : Int)) = true then
                    (gF18 (Int.fdiv y (2 ^ min ((10 : Int)).toNat (IntKind.bits .i64))) (x1.getD p2.toNat (⟨#[]⟩ : ByteArray)) (x1.getD p2.toNat (⟨#[]⟩ : ByteArray)) fun x21 =>
                     if decide ((p3.length + ([((x1.getD p2.toNat (⟨#[]⟩ : ByteArray)), (x2, (false, ((1 : Int), ((1 : Int), x21)))))] : List T13).length) * 88 ≤ 140737488355328) = true then gL10_0 p0 p1 (IntKind.wrap .i64 (p2 + (1 : Int))) (p3 ++ ([((x1.getD p2.toNat (⟨#[]⟩ : ByteArray)), (x2, (false, ((1 : Int), ((1 : Int), x21)))))] : List T13)) p4 p5 K else none)
                   else
                    (if (true && (true && decide ((0 : Int) < (p3.length : Int)))) = true then
                     (if decide ((0 : Int).toNat < p3.length) = true then
                      (if (((((((p3.getD ((0 : Int).toNat) ((⟨#[]⟩ : ByteArray), (([] : List ByteArray), (false, ((0 : Int), ((0 : Int), ([] : List T7))))))).2).2).2).2).1) != (1 : Int)) = true then
                        (gF18 (Int.fdiv y (2 ^ min ((10 : Int)).toNat (IntKind.bits .i64))) (x1.getD p2.toNat (⟨#[]⟩ : ByteArray)) (x1.getD p2.toNat (⟨#[]⟩ : ByteArray)) fun x22 =>
                         if decide ((p3.length + ([((x1.getD p2.toNat (⟨#[]⟩ : ByteArray)), (x2, (false, ((1 : Int), ((1 : Int), x22)))))] : List T13).length) * 88 ≤ 140737488355328) = true then gL10_0 p0 p1 (IntKind.wrap .i64 (p2 + (1 : Int))) (p3 ++ ([((x1.getD p2.toNat (⟨#[]⟩ : ByteArray)), (x2, (false, ((1 : Int), ((1 : Int), x22)))))] : List T13)) p4 p5 K else none)
                       else
                        (gF18 (Int.fdiv y (2 ^ min ((10 : Int)).toNat (IntKind.bits .i64))) (x1.getD p2.toNat (⟨#[]⟩ : ByteArray)) (⟨#[97]⟩ : ByteArray) fun x23 =>
                         if decide ((p3.length + ([((x1.getD p2.toNat (⟨#[]⟩ : ByteArray)), (x2, (false, ((1 : Int), ((1 : Int), x23)))))] : List T13).length) * 88 ≤ 140737488355328) = true then gL10_0 p0 p1 (IntKind.wrap .i64 (p2 + (1 : Int))) (p3 ++ ([((x1.getD p2.toNat (⟨#[]⟩ : ByteArray)), (x2, (false, ((1 : Int), ((1 : Int), x23)))))] : List T13)) p4 p5 K else none))
                     else
                      (none))
                    else
                     (none))))))
          else
           (none))
theorem L10_B_eq (gF16 : tF16) (gF17 : tF17) (gF18 : tF18) (gL10_0 : tL10_0) (κ : T15 → Option Res) (p0 : (List Int)) (p1 : Int) (p2 : Int) (p3 : T14) (p4 : Int) (p5 : Int) (K : Int × T14 → Option Res)  : L10_0_B gF16 gF17 gF18 gL10_0 κ p0 p1 p2 p3 p4 p5 K =
  if decide (p2 < p1) = true then
    (if decide (IntKind.wrap .i64 (p2 + (1 : Int)) < (p0.length : Int)) = true then
      (if (true && (decide ((0 : Int) ≤ IntKind.wrap .i64 (p2 + (1 : Int))) && decide (IntKind.wrap .i64 (p2 + (1 : Int)) < (p0.length : Int)))) = true then L10_N gF16 gF17 gF18 gL10_0 κ p0 p1 p2 p3 p4 p5 K (bits .and .i64 (p0.getD (IntKind.wrap .i64 (p2 + (1 : Int))).toNat (0 : Int)) (16777215 : Int)) else none)
    else L10_N gF16 gF17 gF18 gL10_0 κ p0 p1 p2 p3 p4 p5 K (IntKind.wrap .i64 (p2 * (37 : Int))))
  else K (p2, p3) := by
  rw [L10_0_B]
  simp only [chk1_eq, chk2_eq, chk3_eq, chk4_eq, chk5_eq, chk6_eq, chk7_eq, chk8_eq]
  rfl
def F10_N (gL10_0 : tL10_0) (a0 : List Int) (κ : T15 → Option Res) (x : Int) : Option Res :=
  (if (true && (decide ((0 : Int) ≤ (bits .and .i64 (Int.fdiv x (2 ^ min ((6 : Int)).toNat (IntKind.bits .i64))) (3 : Int))) && decide ((bits .and .i64 (Int.fdiv x (2 ^ min ((6 : Int)).toNat (IntKind.bits .i64))) (3 : Int)) < (([(100 : Int), (100 : Int), (200 : Int), (1000 : Int)] : List Int).length : Int)))) = true then
        (gL10_0 a0 (IntKind.wrap .i64 ((bits .and .i64 x (3 : Int)) + (1 : Int))) (0 : Int) ([] : List T13) (IntKind.wrap .i64 ((bits .and .i64 (Int.fdiv x (2 ^ min ((2 : Int)).toNat (IntKind.bits .i64))) (15 : Int)) + (1 : Int))) (([(100 : Int), (100 : Int), (200 : Int), (1000 : Int)] : List Int).getD (bits .and .i64 (Int.fdiv x (2 ^ min ((6 : Int)).toNat (IntKind.bits .i64))) (3 : Int)).toNat (0 : Int)) fun v47 =>
         κ (v47.2, ((IntKind.wrap .i64 ((bits .and .i64 (Int.fdiv x (2 ^ min ((2 : Int)).toNat (IntKind.bits .i64))) (15 : Int)) + (1 : Int))), (([(100 : Int), (100 : Int), (200 : Int), (1000 : Int)] : List Int).getD (bits .and .i64 (Int.fdiv x (2 ^ min ((6 : Int)).toNat (IntKind.bits .i64))) (3 : Int)).toNat (0 : Int)))))
       else
        (none))
theorem F10_B_eq (gF16 : tF16) (gF17 : tF17) (gF18 : tF18) (gL10_0 : tL10_0) (a0 : List Int) (κ : T15 → Option Res) : F10_B gF16 gF17 gF18 gL10_0 a0 κ =
  if decide ((a0.length : Int) > 0) = true then
    (if (true && (true && decide ((0 : Int) < (a0.length : Int)))) = true then F10_N gL10_0 a0 κ (bits .and .i64 (a0.getD (0 : Int).toNat (0 : Int)) (16777215 : Int)) else none)
  else F10_N gL10_0 a0 κ 0 := by
  rw [F10_B]
  simp only [chk1_eq, chk2_eq, chk3_eq, chk4_eq, chk5_eq, chk6_eq, chk7_eq, chk8_eq]
  rfl
/-- the types of an element -/
def isTy (l : List ByteArray) : Prop := l = [⟨#[65]⟩] ∨ l = [⟨#[66]⟩] ∨ l = [⟨#[67]⟩] ∨ l = [⟨#[65]⟩, ⟨#[66]⟩] ∨ l = [⟨#[66]⟩, ⟨#[67]⟩] ∨ l = [⟨#[65]⟩, ⟨#[66]⟩, ⟨#[67]⟩]
theorem m6 {x : Int} : x % 6 = 0 ∨ x % 6 = 1 ∨ x % 6 = 2 ∨ x % 6 = 3 ∨ x % 6 = 4 ∨ x % 6 = 5 := by omega
theorem F17_eq (y : Int) (hy : 0 ≤ y) (k : Nat) (hk : 1 ≤ k) : ∃ l, isTy l ∧ ∀ κ, F17 k y κ = κ l := by
  obtain ⟨k, rfl⟩ : ∃ k', k = k' + 1 := ⟨k - 1, by omega⟩
  have h : ∀ κ, F17 (k + 1) y κ = F17_B (y % 6) κ := by
    intro κ
    rw [F17]
    unfold F17_B
    rw [tm hy, tm (show 0 ≤ y % 6 by omega), Int.emod_emod_of_dvd _ (by decide)]
  rcases m6 (x := y) with e | e | e | e | e | e <;> rw [e] at h
  · exact ⟨_, .inl rfl, fun κ => (h κ).trans (by kernel_rfl)⟩
  · exact ⟨_, .inr (.inl rfl), fun κ => (h κ).trans (by kernel_rfl)⟩
  · exact ⟨_, .inr (.inr (.inl rfl)), fun κ => (h κ).trans (by kernel_rfl)⟩
  · exact ⟨_, .inr (.inr (.inr (.inl rfl))), fun κ => (h κ).trans (by kernel_rfl)⟩
  · exact ⟨_, .inr (.inr (.inr (.inr (.inl rfl)))), fun κ => (h κ).trans (by kernel_rfl)⟩
  · exact ⟨_, .inr (.inr (.inr (.inr (.inr rfl)))), fun κ => (h κ).trans (by kernel_rfl)⟩
theorem F26_eq (k : Nat) (v f : ByteArray) (κ : T7 → Option Res) : F26 (k + 1) v f κ = κ (nfld v f) := by kernel_rfl
theorem F27_eq (k : Nat) (n : Int) (κ : T7 → Option Res) : F27 (k + 1) n κ = κ (ncon (1, (n, (⟨#[]⟩, false)))) := by kernel_rfl
theorem six {x : Int} (c : Int) (h : c = x % 6) : 7 + c = 7 ∨ 7 + c = 8 ∨ 7 + c = 9 ∨ 7 + c = 10 ∨ 7 + c = 11 ∨ 7 + c = 12 := by omega
theorem F18_eq {V : ByteArray → Prop} {v o : ByteArray} (hv : V v) (ho : V o) (x : Int) (hx : 0 ≤ x) (k : Nat) (hk : 3 ≤ k) : ∃ X : List T7, (X = [] ∨ Gen V X 3) ∧ X.length ≤ 10 ∧ ∀ κ, F18 k x v o κ = κ X := by
  obtain ⟨k, rfl⟩ : ∃ k', k = k' + 1 + 1 := ⟨k - 2, by omega⟩
  have n1 : x / 16 % 4 ≠ -9223372036854775808 := by omega
  have w6 : IntKind.wrap .i64 (7 + x / 64 % 6) = 7 + x / 64 % 6 := wrn (by omega) (by omega)
  have w2 : IntKind.wrap .i64 (7 + x / 64 % 2) = 7 + x / 64 % 2 := wrn (by omega) (by omega)
  by_cases h0 : (x % 7 == 0) = true
  · refine ⟨[], .inl rfl, by simp, fun κ => ?_⟩
    rw [F18, F18_B]
    simp only [chk1_eq, chk2_eq, chk3_eq, chk4_eq, chk5_eq, chk6_eq, chk7_eq, chk8_eq, tm hx, h0, if_true]
  by_cases h1 : (x % 7 == 1) = true
  · refine ⟨_, .inr (Gen.cmp (7 + x / 64 % 6) 1 (six _ rfl) (.inl rfl) (Gen.fx v hv) (Gen.num (x / 16 % 4) n1)), by simp, fun κ => ?_⟩
    rw [F18, F18_B]
    simp only [chk1_eq, chk2_eq, chk3_eq, chk4_eq, chk5_eq, chk6_eq, chk7_eq, chk8_eq, tm hx, h1, if_true, F26_eq, F27_eq, p4, p6, fd 16 (by omega), fd 64 (by omega), tm (show 0 ≤ x / 64 by omega), and3, w6]
    rw [if_neg h0]; rfl
  by_cases h2 : (x % 7 == 2) = true
  · refine ⟨_, .inr (Gen.cmp (7 + x / 64 % 2) 2 (by omega) (.inr rfl) (Gen.fs v hv) (Gen.txt ⟨#[117]⟩ (.inl rfl))), by simp, fun κ => ?_⟩
    rw [F18, F18_B]
    simp only [chk1_eq, chk2_eq, chk3_eq, chk4_eq, chk5_eq, chk6_eq, chk7_eq, chk8_eq, tm hx, h2, if_true, F26_eq, F27_eq, p6, fd 64 (by omega), and1, w2]
    rw [if_neg h0, if_neg h1]; rfl
  by_cases h3 : (x % 7 == 3) = true
  · refine ⟨_, .inr (Gen.not (Gen.cmp (7 + x / 64 % 6) 1 (six _ rfl) (.inl rfl) (Gen.fx v hv) (Gen.num (x / 16 % 4) n1))), by simp, fun κ => ?_⟩
    rw [F18, F18_B]
    simp only [chk1_eq, chk2_eq, chk3_eq, chk4_eq, chk5_eq, chk6_eq, chk7_eq, chk8_eq, tm hx, h3, if_true, F26_eq, F27_eq, p4, p6, fd 16 (by omega), fd 64 (by omega), tm (show 0 ≤ x / 64 by omega), and3, w6]
    rw [if_neg h0, if_neg h1, if_neg h2]; rfl
  by_cases h4 : (x % 7 == 4) = true
  · refine ⟨_, .inr (Gen.cmp (7 + x / 64 % 6) 1 (six _ rfl) (.inl rfl) (Gen.arith 4 (.inl rfl) (Gen.fx v hv) (Gen.num 1 (by omega))) (Gen.fx o ho)), by simp, fun κ => ?_⟩
    rw [F18, F18_B]
    simp only [chk1_eq, chk2_eq, chk3_eq, chk4_eq, chk5_eq, chk6_eq, chk7_eq, chk8_eq, tm hx, h4, if_true, F26_eq, F27_eq, p6, fd 64 (by omega), tm (show 0 ≤ x / 64 by omega), w6]
    rw [if_neg h0, if_neg h1, if_neg h2, if_neg h3]; rfl
  by_cases h5 : (x % 7 == 5) = true
  · refine ⟨_, .inr (Gen.log 15 (.inr rfl) (Gen.cmp 7 2 (by omega) (.inr rfl) (Gen.fs v hv) (Gen.fs o ho)) (Gen.cmp (7 + x / 64 % 6) 1 (six _ rfl) (.inl rfl) (Gen.fx v hv) (Gen.num (x / 16 % 4) n1))), by simp, fun κ => ?_⟩
    rw [F18, F18_B]
    simp only [chk1_eq, chk2_eq, chk3_eq, chk4_eq, chk5_eq, chk6_eq, chk7_eq, chk8_eq, tm hx, h5, if_true, F26_eq, F27_eq, p4, p6, fd 16 (by omega), fd 64 (by omega), tm (show 0 ≤ x / 64 by omega), and3, w6]
    rw [if_neg h0, if_neg h1, if_neg h2, if_neg h3, if_neg h4]; rfl
  · refine ⟨_, .inr (Gen.log 14 (.inl rfl) (Gen.cmp (7 + x / 64 % 6) 1 (six _ rfl) (.inl rfl) (Gen.fx v hv) (Gen.fx o ho)) (Gen.cmp 8 2 (by omega) (.inr rfl) (Gen.fs o ho) (Gen.txt ⟨#[118]⟩ (.inr (.inl rfl))))), by simp, fun κ => ?_⟩
    rw [F18, F18_B]
    simp only [chk1_eq, chk2_eq, chk3_eq, chk4_eq, chk5_eq, chk6_eq, chk7_eq, chk8_eq, tm hx, F26_eq, F27_eq, p6, fd 64 (by omega), tm (show 0 ≤ x / 64 by omega), w6]
    rw [if_neg h0, if_neg h1, if_neg h2, if_neg h3, if_neg h4, if_neg h5]; rfl
theorem p9 : ((2 : Int) ^ min ((9 : Int)).toNat (IntKind.bits .i64)) = 512 := by kernel_rfl
theorem p10 : ((2 : Int) ^ min ((10 : Int)).toNat (IntKind.bits .i64)) = 1024 := by kernel_rfl
abbrev zE : T13 := ((⟨#[]⟩ : ByteArray), (([] : List ByteArray), (false, ((0 : Int), ((0 : Int), ([] : List T7))))))
abbrev VARS : List ByteArray := [(⟨#[97]⟩ : ByteArray), (⟨#[98]⟩ : ByteArray), (⟨#[99]⟩ : ByteArray), (⟨#[101]⟩ : ByteArray)]
def mk (v : ByteArray) (l : List ByteArray) (neg big : Bool) (y : Int) (X : List T7) : T13 :=
  (v, (l, (neg, (if big = true then (y / 256 % 2 + 1, (y / 256 % 2 + 1 + y / 512 % 2, X)) else (1, (1, X))))))
theorem F16_eq (k : Nat) (hk : 1 ≤ k) (κ : List ByteArray → Option Res) : F16 k κ = κ VARS := by
  obtain ⟨k, rfl⟩ : ∃ k', k = k' + 1 := ⟨k - 1, by omega⟩
  kernel_rfl
theorem round (k : Nat) (hk : 1 ≤ k) (κ : T15 → Option Res) (p : List Int) (n i : Nat) (es : T14) (w c y : Int) (K : Int × T14 → Option Res) (b1 b2 b3 b4 b6 : Bool)
    (hn : n ≤ 4) (hi : i < n) (hes : es.length = i) (hy : 0 ≤ y)
    (h1 : decide ((i : Int) > 0) = b1) (h2 : decide ((i : Int) < IntKind.wrap .i64 ((n : Int) - 1)) = b2) (h3 : (y / 16 % 4 == 0) = b3) (h4 : (y / 64 % 4 == 0) = b4) (h5 : ((i : Int) == 0) = !b1) (h6 : ((es.getD 0 zE).2.2.2.2.1 != 1) = b6)
    {v : ByteArray} (hv : VARS.getD i (⟨#[]⟩ : ByteArray) = v) {l : List ByteArray} (hl : ∀ κ, F17 k y κ = κ l) {X : List T7} (hX : ∀ κ, F18 k (y / 1024) v (if (!b1 || b6) = true then v else ⟨#[97]⟩) κ = κ X) (gL : tL10_0) :
    L10_N (F16 k) (F17 k) (F18 k) gL κ p (n : Int) (i : Int) es w c K y = gL p (n : Int) ((i + 1 : Nat) : Int) (es ++ [mk v l (b1 && (b2 && b3)) (!(b1 && (b2 && b3)) && b4) y X]) w c K := by
  have hr : (decide ((0 : Int) ≤ (i : Int)) && decide ((i : Int) < (VARS.length : Int))) = true := by simp; omega
  have w8 : IntKind.wrap .i64 (y / 256 % 2 + 1) = y / 256 % 2 + 1 := wrn (by omega) (by omega)
  have w9 : IntKind.wrap .i64 (y / 256 % 2 + 1 + y / 512 % 2) = y / 256 % 2 + 1 + y / 512 % 2 := wrn (by omega) (by omega)
  have wi : IntKind.wrap .i64 ((i : Int) + 1) = ((i + 1 : Nat) : Int) := wr1 (by omega)
  have ln : ∀ e : T13, decide ((es.length + [e].length) * 88 ≤ 140737488355328) = true := fun e => decide_eq_true (by simp only [List.length_cons, List.length_nil]; omega)
  have lp : b1 = true → (true && (true && decide ((0 : Int) < (es.length : Int)))) = true := fun h => by rw [h] at h1; simp at h1 ⊢; omega
  have lq : b1 = true → decide ((0 : Int).toNat < es.length) = true := fun h => by rw [h] at h1; simp at h1 ⊢; omega
  unfold L10_N
  simp only [F16_eq k hk, hr, Bool.true_and, if_true, hl, p4, p6, p8, p9, p10, fd 16 (by omega), fd 64 (by omega), fd 256 (by omega), fd 512 (by omega), fd 1024 (by omega), and3, and1, h1, h2, h3, h4, h5, Int.toNat_natCast, hv, w8, w9, wi, ln]
  cases b1
  · simp only [Bool.not_false, Bool.true_or, if_true] at hX
    cases b4 <;> simp only [Bool.false_eq_true, if_false, if_true, Bool.false_and, Bool.not_false, Bool.not_true, Bool.true_and, Bool.and_true, Bool.and_false, hX, mk]
  · simp only [Bool.not_true, Bool.false_or] at hX
    have lp := lp rfl
    have lq := lq rfl
    simp only [Bool.true_and] at lp
    have h6' : ((es.getD (0 : Int).toNat zE).2.2.2.2.1 != 1) = b6 := h6
    cases b6 <;> simp only [Bool.false_eq_true, if_false, if_true] at hX <;> cases b2 <;> cases b3 <;> cases b4 <;>
      simp only [Bool.false_eq_true, if_false, if_true, Bool.false_and, Bool.not_false, Bool.not_true, Bool.true_and, Bool.and_true, Bool.and_false, lp, lq, h6', hX, mk]
theorem Gen.mono {V V' : ByteArray → Prop} (hV : ∀ v, V v → V' v) {X : List T7} {c : Int} (h : Gen V X c) : Gen V' X c := by
  induction h with
  | num n h => exact .num n h
  | tru b => exact .tru b
  | txt s h => exact .txt s h
  | fx v h => exact .fx v (hV v h)
  | fs v h => exact .fs v (hV v h)
  | neg h ih => exact .neg ih
  | arith op ho h h' ih ih' => exact .arith op ho ih ih'
  | cmp op c ho hc h h' ih ih' => exact .cmp op c ho hc ih ih'
  | not h ih => exact .not ih
  | log op ho h h' ih ih' => exact .log op ho ih ih'
/-- the variables of an element's predicate -/
def Vr (M : Bool) (i : Nat) (v : ByteArray) : Prop := v = VARS.getD i (⟨#[]⟩ : ByteArray) ∨ (v = ⟨#[97]⟩ ∧ M = true)
structure EOk (n : Nat) (M : Bool) (i : Nat) (e : T13) : Prop where
  var : e.1 = VARS.getD i (⟨#[]⟩ : ByteArray)
  tys : isTy e.2.1
  neg : e.2.2.1 = true → (0 < i ∧ i + 1 < n) ∧ e.2.2.2.2.1 = 1
  mn : 1 ≤ e.2.2.2.1
  mx : e.2.2.2.1 ≤ e.2.2.2.2.1
  mx4 : e.2.2.2.2.1 ≤ 3
  pred : e.2.2.2.2.2 = [] ∨ Gen (Vr M i) e.2.2.2.2.2 3
  len : e.2.2.2.2.2.length ≤ 10
theorem mk_max (v : ByteArray) (l : List ByteArray) (neg big : Bool) (y : Int) (X : List T7) : (mk v l neg big y X).2.2.2.2.1 = if big = true then y / 256 % 2 + 1 + y / 512 % 2 else 1 := by cases big <;> rfl
theorem mk_min (v : ByteArray) (l : List ByteArray) (neg big : Bool) (y : Int) (X : List T7) : (mk v l neg big y X).2.2.2.1 = if big = true then y / 256 % 2 + 1 else 1 := by cases big <;> rfl
theorem mk_pred (v : ByteArray) (l : List ByteArray) (neg big : Bool) (y : Int) (X : List T7) : (mk v l neg big y X).2.2.2.2.2 = X := by cases big <;> rfl
theorem stepN (p : List Int) (n i : Nat) (hn : n ≤ 4) (hi : i < n) (es : T14) (hes : es.length = i) (w c y : Int) (hy : 0 ≤ y) (k : Nat) (hk : 5 ≤ k) :
    ∃ e, EOk n (((es ++ [e]).getD 0 zE).2.2.2.2.1 == 1) i e ∧ ∀ (κ : T15 → Option Res) (gL : tL10_0) K, L10_N (F16 k) (F17 k) (F18 k) gL κ p (n : Int) (i : Int) es w c K y = gL p (n : Int) ((i + 1 : Nat) : Int) (es ++ [e]) w c K := by
  obtain ⟨l, hl, el⟩ := F17_eq y hy k (by omega)
  obtain ⟨b1, h1⟩ : ∃ b, decide ((i : Int) > 0) = b := ⟨_, rfl⟩
  obtain ⟨b2, h2⟩ : ∃ b, decide ((i : Int) < IntKind.wrap .i64 ((n : Int) - 1)) = b := ⟨_, rfl⟩
  obtain ⟨b3, h3⟩ : ∃ b, (y / 16 % 4 == 0) = b := ⟨_, rfl⟩
  obtain ⟨b4, h4⟩ : ∃ b, (y / 64 % 4 == 0) = b := ⟨_, rfl⟩
  obtain ⟨b6, h6⟩ : ∃ b, ((es.getD 0 zE).2.2.2.2.1 != 1) = b := ⟨_, rfl⟩
  have h5 : ((i : Int) == 0) = !b1 := by rw [← h1]; cases i <;> simp; omega
  have hb2 : b2 = true → i + 1 < n := fun h => by
    rw [h] at h2
    rw [wrn (by omega) (by omega)] at h2
    simp at h2; omega
  have hb1 : b1 = true → 0 < i := fun h => by rw [h] at h1; simp at h1; exact h1
  obtain ⟨X, hX, lX, eX⟩ := F18_eq (V := fun u => u = VARS.getD i (⟨#[]⟩ : ByteArray) ∨ (u = ⟨#[97]⟩ ∧ (b1 && !b6) = true)) (v := VARS.getD i (⟨#[]⟩ : ByteArray)) (o := if (!b1 || b6) = true then VARS.getD i (⟨#[]⟩ : ByteArray) else ⟨#[97]⟩)
    (.inl rfl) (by cases b1 <;> cases b6 <;> simp) (y / 1024) (by omega) k (by omega)
  refine ⟨mk (VARS.getD i (⟨#[]⟩ : ByteArray)) l (b1 && (b2 && b3)) (!(b1 && (b2 && b3)) && b4) y X, ⟨rfl, hl, fun h => ?_, ?_, ?_, ?_, ?_, ?_⟩, fun κ gL K => round k (by omega) κ p n i es w c y K b1 b2 b3 b4 b6 hn hi hes hy h1 h2 h3 h4 h5 h6 rfl el eX gL⟩
  · have h : (b1 && (b2 && b3)) = true := h
    rw [mk_max, h]
    simp only [Bool.and_eq_true] at h
    exact ⟨⟨hb1 h.1, hb2 h.2.1⟩, rfl⟩
  · rw [mk_min]; split <;> omega
  · rw [mk_max, mk_min]; split <;> omega
  · rw [mk_max]; split <;> omega
  · rw [mk_pred]
    refine hX.imp id (Gen.mono fun v hv => ?_)
    rcases hv with hv | ⟨hv, hb⟩
    · exact .inl hv
    · simp only [Bool.and_eq_true, Bool.not_eq_true'] at hb
      refine .inr ⟨hv, ?_⟩
      have hpos := hb1 hb.1
      rw [getD_left (by omega)]
      rw [hb.2] at h6
      simpa using h6
  · rw [mk_pred]; exact lX
theorem step (p : List Int) (n i : Nat) (hn : n ≤ 4) (hi : i < n) (es : T14) (hes : es.length = i) (w c : Int) (k : Nat) (hk : 5 ≤ k) :
    ∃ e, EOk n (((es ++ [e]).getD 0 zE).2.2.2.2.1 == 1) i e ∧ ∀ (κ : T15 → Option Res) K, L10_0 (k + 1) κ p (n : Int) (i : Int) es w c K = L10_0 k κ p (n : Int) ((i + 1 : Nat) : Int) (es ++ [e]) w c K := by
  have wi : IntKind.wrap .i64 ((i : Int) + 1) = ((i + 1 : Nat) : Int) := wr1 (by omega)
  have w37 : IntKind.wrap .i64 ((i : Int) * 37) = (i : Int) * 37 := wrn (by omega) (by omega)
  by_cases h : i + 1 < p.length
  · obtain ⟨e, he, hk'⟩ := stepN p n i hn hi es hes w c (bits .and .i64 (p.getD ((i + 1 : Nat) : Int).toNat (0 : Int)) (16777215 : Int)) (by rw [and24]; omega) k hk
    refine ⟨e, he, fun κ K => ?_⟩
    rw [L10_0, L10_B_eq, wi, if_pos (lt_t hi), if_pos (lt_t h), if_pos (by rw [Bool.true_and]; exact rng h)]
    exact hk' κ _ K
  · obtain ⟨e, he, hk'⟩ := stepN p n i hn hi es hes w c ((i : Int) * 37) (by omega) k hk
    refine ⟨e, he, fun κ K => ?_⟩
    rw [L10_0, L10_B_eq, wi, w37, if_pos (lt_t hi), if_neg (by simp; omega)]
    exact hk' κ _ K
def mx0 (es : T14) : Bool := (es.getD 0 zE).2.2.2.2.1 == 1
theorem build (p : List Int) (n : Nat) (hn : n ≤ 4) (w c : Int) : ∀ (m i : Nat) (es : T14) (k : Nat), i + m = n → es.length = i → m + 6 ≤ k → (∀ j, j < i → EOk n (mx0 es) j (es.getD j zE)) →
    ∃ es' : T14, es'.length = n ∧ (∀ j, j < n → EOk n (mx0 es') j (es'.getD j zE)) ∧ ∀ (κ : T15 → Option Res) K, L10_0 k κ p (n : Int) (i : Int) es w c K = K ((n : Int), es') := by
  intro m
  induction m with
  | zero =>
    intro i es k hi hes hk he
    obtain ⟨k, rfl⟩ : ∃ k', k = k' + 1 := ⟨k - 1, by omega⟩
    have : i = n := by omega
    subst this
    refine ⟨es, hes, he, fun κ K => ?_⟩
    rw [L10_0, L10_B_eq, lt_f, if_neg (by simp)]
  | succ m ih =>
    intro i es k hi hes hk he
    obtain ⟨k, rfl⟩ : ∃ k', k = k' + 1 := ⟨k - 1, by omega⟩
    obtain ⟨e, ho, hs⟩ := step p n i hn (by omega) es hes w c k (by omega)
    obtain ⟨es', h1, h2, h3⟩ := ih (i + 1) (es ++ [e]) k (by omega) (by simp; omega) (by omega) (fun j hj => by
      by_cases hji : j = i
      · subst hji
        have : (es ++ [e]).getD j zE = e := by
          have := getD_right (a := es) (b := [e]) (z := zE) (j := 0)
          rw [hes, Nat.add_zero] at this
          rw [this]; rfl
        rw [this]; exact ho
      · have h0 : mx0 (es ++ [e]) = mx0 es := by unfold mx0; rw [getD_left (by omega)]
        rw [getD_left (by omega), h0]; exact he j (by omega))
    exact ⟨es', h1, h2, fun κ K => by rw [hs κ K, h3 κ K]⟩
theorem caps (x : Int) : 1 ≤ ([(100 : Int), (100 : Int), (200 : Int), (1000 : Int)] : List Int).getD (x % 4).toNat (0 : Int) ∧ ([(100 : Int), (100 : Int), (200 : Int), (1000 : Int)] : List Int).getD (x % 4).toNat (0 : Int) ≤ 1000 ∧
    (true && (decide ((0 : Int) ≤ x % 4) && decide (x % 4 < (([(100 : Int), (100 : Int), (200 : Int), (1000 : Int)] : List Int).length : Int)))) = true := by
  rcases (show x % 4 = 0 ∨ x % 4 = 1 ∨ x % 4 = 2 ∨ x % 4 = 3 by omega) with h | h | h | h <;> rw [h] <;> decide
theorem p2 : ((2 : Int) ^ min ((2 : Int)).toNat (IntKind.bits .i64)) = 4 := by kernel_rfl
/-- a query of picks, whatever the picks -/
theorem query (p : List Int) (k : Nat) (hk : 12 ≤ k) : ∃ (n : Nat) (es : T14) (w c : Int), 1 ≤ n ∧ n ≤ 4 ∧ es.length = n ∧ (∀ j, j < n → EOk n (mx0 es) j (es.getD j zE)) ∧ (1 ≤ w ∧ w ≤ 16) ∧ (1 ≤ c ∧ c ≤ 1000) ∧ ∀ κ, F10 k p κ = κ (es, (w, c)) := by
  obtain ⟨k, rfl⟩ : ∃ k', k = k' + 1 := ⟨k - 1, by omega⟩
  have main : ∀ x : Int, 0 ≤ x → ∃ (n : Nat) (es : T14) (w c : Int), 1 ≤ n ∧ n ≤ 4 ∧ es.length = n ∧ (∀ j, j < n → EOk n (mx0 es) j (es.getD j zE)) ∧ (1 ≤ w ∧ w ≤ 16) ∧ (1 ≤ c ∧ c ≤ 1000) ∧ ∀ κ, F10_N (L10_0 k κ) p κ x = κ (es, (w, c)) := by
    intro x hx
    obtain ⟨c1, c2, c3⟩ := caps (x / 64)
    obtain ⟨n, hn⟩ : ∃ n : Nat, x % 4 + 1 = (n : Int) := ⟨(x % 4 + 1).toNat, by omega⟩
    obtain ⟨es, h1, h2, h3⟩ := build p n (by omega) (x / 4 % 16 + 1) (([(100 : Int), (100 : Int), (200 : Int), (1000 : Int)] : List Int).getD (x / 64 % 4).toNat (0 : Int)) n 0 [] k (by omega) rfl (by omega) (fun j hj => by omega)
    refine ⟨n, es, x / 4 % 16 + 1, _, by omega, by omega, h1, h2, ⟨by omega, by omega⟩, ⟨c1, c2⟩, fun κ => ?_⟩
    · unfold F10_N
      simp only [p2, p6, fd 4 (by omega), fd 64 (by omega), and3, and15]
      rw [if_pos c3, wrn (n := x % 4 + 1) (by omega) (by omega), wrn (n := x / 4 % 16 + 1) (by omega) (by omega), hn, show (0 : Int) = ((0 : Nat) : Int) from rfl]
      exact h3 κ _
  by_cases h : 0 < p.length
  · obtain ⟨n, es, w, c, h1, h2, h3, h4, h5, h6, h7⟩ := main (bits .and .i64 (p.getD (0 : Int).toNat (0 : Int)) (16777215 : Int)) (by rw [and24]; omega)
    refine ⟨n, es, w, c, h1, h2, h3, h4, h5, h6, fun κ => ?_⟩
    rw [F10, F10_B_eq (F16 k) (F17 k) (F18 k), if_pos (by simpa using h), if_pos (by simpa using h)]
    exact h7 κ
  · obtain ⟨n, es, w, c, h1, h2, h3, h4, h5, h6, h7⟩ := main 0 (by omega)
    refine ⟨n, es, w, c, h1, h2, h3, h4, h5, h6, fun κ => ?_⟩
    rw [F10, F10_B_eq (F16 k) (F17 k) (F18 k), if_neg (by simpa using h)]
    exact h7 κ
end Go.Proofs.Ytfdgjpeanffknaa.ChM
