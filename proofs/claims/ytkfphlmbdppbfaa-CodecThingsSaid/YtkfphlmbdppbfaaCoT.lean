/- The functions that 'lamplighter/lamplighterlaw53.CodecThings' reaches, over lists and numbers, and that the machine of values comes to them (printed by wip/vm/gen.py). No condition. -/
import Derived.Test.YtkfphlmbdppbfaaCoTA
namespace Go.Proofs.Ytkfphlmbdppbfaa.CoT
open Go Go.Proofs.Ytkfphlmbdppbfaa.Vm
set_option linter.unusedVariables false
set_option maxRecDepth 100000
def F166_B (gF182 : tF182) (gF183 : tF183) (gF184 : tF184) (a0 : T2) (κ : Bool → Option Res) : Option Res :=
  chk2 (if (a0.1 == (1 : Int)) = true then
    (chk1 (gF182 a0.2.1 fun x1 =>
     chk2 (κ ((a0.1 == x1.1) && ((a0.2.1 == x1.2.1) && ((a0.2.2.1 == x1.2.2.1) && (a0.2.2.2 == x1.2.2.2)))))))
   else
    (chk1 (if (a0.1 == (2 : Int)) = true then
      (chk1 (gF183 a0.2.2.1 fun x2 =>
       chk2 (if ((a0.1 == x2.1) && ((a0.2.1 == x2.2.1) && ((a0.2.2.1 == x2.2.2.1) && (a0.2.2.2 == x2.2.2.2)))) = true then
         (chk2 (κ (decide ((a0.2.2.1.size : Int) ≤ (64 : Int)))))
        else
         (κ false))))
     else
      (chk1 (if (a0.1 == (3 : Int)) = true then
        (chk1 (gF184 a0.2.2.2 fun x3 =>
         chk2 (κ ((a0.1 == x3.1) && ((a0.2.1 == x3.2.1) && ((a0.2.2.1 == x3.2.2.1) && (a0.2.2.2 == x3.2.2.2)))))))
       else
        (κ false))))))
/-- lamplighter/value.May -/
def F166 : Nat → T2 → (Bool → Option Res) → Option Res
  | 0, _, _ => none
  | k + 1, a0, κ => F166_B (F182 k) (F183 k) (F184 k) a0 κ
def F166_s : List SC := [.agg [.int .i64, .int .i64, .str, .bool]]
def F166_b : List (List SC) := []
def F166_m (g : T2 → (Bool → Option Res) → Option Res) (cf : CallF) : CallF := fun f args lent κ => match Nat.beq f 166 with
  | true => match okC F166_s args && okB F166_b lent with
    | true => g ((intOf (nth (aggOf (nth args 0)) 0)), ((intOf (nth (aggOf (nth args 0)) 1)), ((stringOf (nth (aggOf (nth args 0)) 2)), (boolOf (nth (aggOf (nth args 0)) 3))))) (fun x => κ ((.bool x, []) : Res))
    | false => cf f args lent κ
  | false => cf f args lent κ
theorem F166_d (k : Nat) (h : ∀ (a0 : T2) (κ : Res → Option Res), (ev Try.prog cfg k).call 166 [.agg [.int .i64 a0.1, .int .i64 a0.2.1, .str a0.2.2.1, .bool a0.2.2.2]] [] κ = F166 k a0 (fun x => κ ((.bool x, []) : Res))) : F166_m (F166 k) (ev Try.prog cfg k).call = (ev Try.prog cfg k).call := by
  funext f args lent κ
  unfold F166_m
  split
  · rename_i hp
    split
    · rename_i hs
      rw [Bool.and_eq_true] at hs
      have e : mkC F166_s 0 args = [.agg [.int .i64 (intOf (nth (aggOf (nth args 0)) 0)), .int .i64 (intOf (nth (aggOf (nth args 0)) 1)), .str (stringOf (nth (aggOf (nth args 0)) 2)), .bool (boolOf (nth (aggOf (nth args 0)) 3))]] := by kernel_rfl
      have e' : mkB F166_b 0 lent = [] := by kernel_rfl
      obtain rfl := Nat.eq_of_beq_eq_true hp
      exact (h ((intOf (nth (aggOf (nth args 0)) 0)), ((intOf (nth (aggOf (nth args 0)) 1)), ((stringOf (nth (aggOf (nth args 0)) 2)), (boolOf (nth (aggOf (nth args 0)) 3))))) κ).symm.trans (cong2 (fun a l => (ev Try.prog cfg k).call 166 a l κ) (e.symm.trans (okC_eq hs.1).symm) (e'.symm.trans (okB_eq hs.2).symm))
    · rfl
  · rfl
theorem F166_k (gF182 : tF182) (gF183 : tF183) (gF184 : tF184) (cf : CallF) (lf : LoopF) (a0 : T2) (κ : Res → Option Res) : evFn Try.prog cfg (F182_m gF182 (F183_m gF183 (F184_m gF184 cf))) lf 166 [.agg [.int .i64 a0.1, .int .i64 a0.2.1, .str a0.2.2.1, .bool a0.2.2.2]] [] κ = F166_B gF182 gF183 gF184 a0 (fun x => κ ((.bool x, []) : Res)) := by
  kernel_rfl
theorem F166_ev : ∀ (k : Nat) (a0 : T2) (κ : Res → Option Res), (ev Try.prog cfg k).call 166 [.agg [.int .i64 a0.1, .int .i64 a0.2.1, .str a0.2.2.1, .bool a0.2.2.2]] [] κ = F166 k a0 (fun x => κ ((.bool x, []) : Res)) := by
  intro k
  induction k with
  | zero => intros; rfl
  | succ k ih =>
    intro a0 κ
    refine (ev_call' Try.prog cfg k 166 0 _ _ κ (by rfl)).trans ?_
    rw [← F182_d k (F182_ev k), ← F183_d k (F183_ev k), ← F184_d k (F184_ev k)]
    exact F166_k _ _ _ _ _ a0 κ
def F25_B (gF22v1 : tF22v1) (gF81 : tF81) (b0_0 : (List Int)) (b0_1 : Int) (κ : Bool × (List Int) × Int → Option Res) : Option Res :=
  chk1 (gF22v1 b0_0 b0_1 fun x1 =>
   chk2 (if decide (x1.1 > (1 : Int)) = true then
     (chk1 (gF81 (2 : Int) x1.2.1 x1.2.2 fun x2 =>
      chk2 (κ ((x1.1 == (1 : Int)), (x2.1, x2.2)))))
    else
     (chk1 (κ ((x1.1 == (1 : Int)), (x1.2.1, x1.2.2))))))
/-- (*lamplighter/codec.Reader).Truth -/
def F25 : Nat → (List Int) → Int → (Bool × (List Int) × Int → Option Res) → Option Res
  | 0, _, _, _ => none
  | k + 1, b0_0, b0_1, κ => F25_B (F22v1 k) (F81 k) b0_0 b0_1 κ
def F25_s : List SC := [.one (.ref 0 0)]
def F25_b : List (List SC) := [[.one (.list (.int .u8) .no), .one (.int .i64)]]
def F25_m (g : (List Int) → Int → (Bool × (List Int) × Int → Option Res) → Option Res) (cf : CallF) : CallF := fun f args lent κ => match Nat.beq f 25 with
  | true => match okC F25_s args && okB F25_b lent with
    | true => g (listOf (.int .u8) (nth (nthB lent 0) 0)) (intOf (nth (nthB lent 0) 1)) (fun x => κ ((.bool x.1, [[.list (.int .u8) x.2.1 .no, .int .i64 x.2.2]]) : Res))
    | false => cf f args lent κ
  | false => cf f args lent κ
theorem F25_d (k : Nat) (h : ∀ (b0_0 : (List Int)) (b0_1 : Int) (κ : Res → Option Res), (ev Try.prog cfg k).call 25 [.ref 0 0] [[.list (.int .u8) b0_0 .no, .int .i64 b0_1]] κ = F25 k b0_0 b0_1 (fun x => κ ((.bool x.1, [[.list (.int .u8) x.2.1 .no, .int .i64 x.2.2]]) : Res))) : F25_m (F25 k) (ev Try.prog cfg k).call = (ev Try.prog cfg k).call := by
  funext f args lent κ
  unfold F25_m
  split
  · rename_i hp
    split
    · rename_i hs
      rw [Bool.and_eq_true] at hs
      have e : mkC F25_s 0 args = [.ref 0 0] := by kernel_rfl
      have e' : mkB F25_b 0 lent = [[.list (.int .u8) (listOf (.int .u8) (nth (nthB lent 0) 0)) .no, .int .i64 (intOf (nth (nthB lent 0) 1))]] := by kernel_rfl
      obtain rfl := Nat.eq_of_beq_eq_true hp
      exact (h (listOf (.int .u8) (nth (nthB lent 0) 0)) (intOf (nth (nthB lent 0) 1)) κ).symm.trans (cong2 (fun a l => (ev Try.prog cfg k).call 25 a l κ) (e.symm.trans (okC_eq hs.1).symm) (e'.symm.trans (okB_eq hs.2).symm))
    · rfl
  · rfl
theorem F25_k (gF22v1 : tF22v1) (gF81 : tF81) (cf : CallF) (lf : LoopF) (b0_0 : (List Int)) (b0_1 : Int) (κ : Res → Option Res) : evFn Try.prog cfg (F22v1_m gF22v1 (F81_m gF81 cf)) lf 25 [.ref 0 0] [[.list (.int .u8) b0_0 .no, .int .i64 b0_1]] κ = F25_B gF22v1 gF81 b0_0 b0_1 (fun x => κ ((.bool x.1, [[.list (.int .u8) x.2.1 .no, .int .i64 x.2.2]]) : Res)) := by
  kernel_rfl
theorem F25_ev : ∀ (k : Nat) (b0_0 : (List Int)) (b0_1 : Int) (κ : Res → Option Res), (ev Try.prog cfg k).call 25 [.ref 0 0] [[.list (.int .u8) b0_0 .no, .int .i64 b0_1]] κ = F25 k b0_0 b0_1 (fun x => κ ((.bool x.1, [[.list (.int .u8) x.2.1 .no, .int .i64 x.2.2]]) : Res)) := by
  intro k
  induction k with
  | zero => intros; rfl
  | succ k ih =>
    intro b0_0 b0_1 κ
    refine (ev_call' Try.prog cfg k 25 1 _ _ κ (by rfl)).trans ?_
    rw [← F22v1_d k (F22v1_ev k), ← F81_d k (F81_ev k)]
    exact F25_k _ _ _ _ b0_0 b0_1 κ
def F132_B (gF22v1 : tF22v1) (gF23 : tF23) (gF26 : tF26) (gF81 : tF81) (gF166 : tF166) (gF24 : tF24) (gF25 : tF25) (b0_0 : (List Int)) (b0_1 : Int) (κ : T2 × (List Int) × Int → Option Res) : Option Res :=
  chk2 (gF22v1 b0_0 b0_1 fun x1 =>
   chk8 (if ((IntKind.wrap .i64 ((imin x1.1 (9 : Int)))) == (1 : Int)) = true then
     (chk1 (gF23 x1.2.1 x1.2.2 fun x2 =>
      chk4 (gF26 x2.2.1 x2.2.2 fun x3 =>
       chk2 (if (x3.1 != (0 : Int)) = true then
         (chk2 (gF81 (2 : Int) x3.2.1 x3.2.2 fun x4 =>
          chk4 (κ (((0 : Int), ((0 : Int), ((⟨#[]⟩ : ByteArray), false))), (x4.1, x4.2)))))
        else
         (chk1 (gF166 ((IntKind.wrap .i64 ((imin x1.1 (9 : Int)))), (x2.1, ((⟨#[]⟩ : ByteArray), false))) fun x5 =>
          chk1 (if (!x5) = true then
            (chk1 (gF81 (2 : Int) x3.2.1 x3.2.2 fun x6 =>
             chk4 (κ (((0 : Int), ((0 : Int), ((⟨#[]⟩ : ByteArray), false))), (x6.1, x6.2)))))
           else
            (chk2 (κ (((IntKind.wrap .i64 ((imin x1.1 (9 : Int)))), (x2.1, ((⟨#[]⟩ : ByteArray), false))), (x3.2.1, x3.2.2)))))))))))
    else
     (chk1 (if ((IntKind.wrap .i64 ((imin x1.1 (9 : Int)))) == (2 : Int)) = true then
       (chk1 (gF24 x1.2.1 x1.2.2 fun x7 =>
        chk4 (gF26 x7.2.1 x7.2.2 fun x8 =>
         chk2 (if (x8.1 != (0 : Int)) = true then
           (chk2 (gF81 (2 : Int) x8.2.1 x8.2.2 fun x9 =>
            chk4 (κ (((0 : Int), ((0 : Int), ((⟨#[]⟩ : ByteArray), false))), (x9.1, x9.2)))))
          else
           (chk1 (gF166 ((IntKind.wrap .i64 ((imin x1.1 (9 : Int)))), ((0 : Int), (x7.1, false))) fun x10 =>
            chk1 (if (!x10) = true then
              (chk1 (gF81 (2 : Int) x8.2.1 x8.2.2 fun x11 =>
               chk4 (κ (((0 : Int), ((0 : Int), ((⟨#[]⟩ : ByteArray), false))), (x11.1, x11.2)))))
             else
              (chk2 (κ (((IntKind.wrap .i64 ((imin x1.1 (9 : Int)))), ((0 : Int), (x7.1, false))), (x8.2.1, x8.2.2)))))))))))
      else
       (chk1 (if ((IntKind.wrap .i64 ((imin x1.1 (9 : Int)))) == (3 : Int)) = true then
         (chk1 (gF25 x1.2.1 x1.2.2 fun x12 =>
          chk4 (gF26 x12.2.1 x12.2.2 fun x13 =>
           chk2 (if (x13.1 != (0 : Int)) = true then
             (chk2 (gF81 (2 : Int) x13.2.1 x13.2.2 fun x14 =>
              chk4 (κ (((0 : Int), ((0 : Int), ((⟨#[]⟩ : ByteArray), false))), (x14.1, x14.2)))))
            else
             (chk1 (gF166 ((IntKind.wrap .i64 ((imin x1.1 (9 : Int)))), ((0 : Int), ((⟨#[]⟩ : ByteArray), x12.1))) fun x15 =>
              chk1 (if (!x15) = true then
                (chk1 (gF81 (2 : Int) x13.2.1 x13.2.2 fun x16 =>
                 chk4 (κ (((0 : Int), ((0 : Int), ((⟨#[]⟩ : ByteArray), false))), (x16.1, x16.2)))))
               else
                (chk2 (κ (((IntKind.wrap .i64 ((imin x1.1 (9 : Int)))), ((0 : Int), ((⟨#[]⟩ : ByteArray), x12.1))), (x13.2.1, x13.2.2)))))))))))
        else
         (chk1 (gF26 x1.2.1 x1.2.2 fun x17 =>
          chk2 (if (x17.1 != (0 : Int)) = true then
            (chk2 (gF81 (2 : Int) x17.2.1 x17.2.2 fun x18 =>
             chk4 (κ (((0 : Int), ((0 : Int), ((⟨#[]⟩ : ByteArray), false))), (x18.1, x18.2)))))
           else
            (chk1 (gF166 ((IntKind.wrap .i64 ((imin x1.1 (9 : Int)))), ((0 : Int), ((⟨#[]⟩ : ByteArray), false))) fun x19 =>
             chk1 (if (!x19) = true then
               (chk1 (gF81 (2 : Int) x17.2.1 x17.2.2 fun x20 =>
                chk4 (κ (((0 : Int), ((0 : Int), ((⟨#[]⟩ : ByteArray), false))), (x20.1, x20.2)))))
              else
               (chk2 (κ (((IntKind.wrap .i64 ((imin x1.1 (9 : Int)))), ((0 : Int), ((⟨#[]⟩ : ByteArray), false))), (x17.2.1, x17.2.2))))))))))))))))
/-- (*lamplighter/codec.Reader).Value -/
def F132 : Nat → (List Int) → Int → (T2 × (List Int) × Int → Option Res) → Option Res
  | 0, _, _, _ => none
  | k + 1, b0_0, b0_1, κ => F132_B (F22v1 k) (F23 k) (F26 k) (F81 k) (F166 k) (F24 k) (F25 k) b0_0 b0_1 κ
def F132_s : List SC := [.one (.ref 0 0)]
def F132_b : List (List SC) := [[.one (.list (.int .u8) .no), .one (.int .i64)]]
def F132_m (g : (List Int) → Int → (T2 × (List Int) × Int → Option Res) → Option Res) (cf : CallF) : CallF := fun f args lent κ => match Nat.beq f 132 with
  | true => match okC F132_s args && okB F132_b lent with
    | true => g (listOf (.int .u8) (nth (nthB lent 0) 0)) (intOf (nth (nthB lent 0) 1)) (fun x => κ ((.agg [.int .i64 x.1.1, .int .i64 x.1.2.1, .str x.1.2.2.1, .bool x.1.2.2.2], [[.list (.int .u8) x.2.1 .no, .int .i64 x.2.2]]) : Res))
    | false => cf f args lent κ
  | false => cf f args lent κ
theorem F132_d (k : Nat) (h : ∀ (b0_0 : (List Int)) (b0_1 : Int) (κ : Res → Option Res), (ev Try.prog cfg k).call 132 [.ref 0 0] [[.list (.int .u8) b0_0 .no, .int .i64 b0_1]] κ = F132 k b0_0 b0_1 (fun x => κ ((.agg [.int .i64 x.1.1, .int .i64 x.1.2.1, .str x.1.2.2.1, .bool x.1.2.2.2], [[.list (.int .u8) x.2.1 .no, .int .i64 x.2.2]]) : Res))) : F132_m (F132 k) (ev Try.prog cfg k).call = (ev Try.prog cfg k).call := by
  funext f args lent κ
  unfold F132_m
  split
  · rename_i hp
    split
    · rename_i hs
      rw [Bool.and_eq_true] at hs
      have e : mkC F132_s 0 args = [.ref 0 0] := by kernel_rfl
      have e' : mkB F132_b 0 lent = [[.list (.int .u8) (listOf (.int .u8) (nth (nthB lent 0) 0)) .no, .int .i64 (intOf (nth (nthB lent 0) 1))]] := by kernel_rfl
      obtain rfl := Nat.eq_of_beq_eq_true hp
      exact (h (listOf (.int .u8) (nth (nthB lent 0) 0)) (intOf (nth (nthB lent 0) 1)) κ).symm.trans (cong2 (fun a l => (ev Try.prog cfg k).call 132 a l κ) (e.symm.trans (okC_eq hs.1).symm) (e'.symm.trans (okB_eq hs.2).symm))
    · rfl
  · rfl
theorem F132_k (gF22v1 : tF22v1) (gF23 : tF23) (gF26 : tF26) (gF81 : tF81) (gF166 : tF166) (gF24 : tF24) (gF25 : tF25) (cf : CallF) (lf : LoopF) (b0_0 : (List Int)) (b0_1 : Int) (κ : Res → Option Res) : evFn Try.prog cfg (F22v1_m gF22v1 (F23_m gF23 (F26_m gF26 (F81_m gF81 (F166_m gF166 (F24_m gF24 (F25_m gF25 cf))))))) lf 132 [.ref 0 0] [[.list (.int .u8) b0_0 .no, .int .i64 b0_1]] κ = F132_B gF22v1 gF23 gF26 gF81 gF166 gF24 gF25 b0_0 b0_1 (fun x => κ ((.agg [.int .i64 x.1.1, .int .i64 x.1.2.1, .str x.1.2.2.1, .bool x.1.2.2.2], [[.list (.int .u8) x.2.1 .no, .int .i64 x.2.2]]) : Res)) := by
  kernel_rfl
theorem F132_ev : ∀ (k : Nat) (b0_0 : (List Int)) (b0_1 : Int) (κ : Res → Option Res), (ev Try.prog cfg k).call 132 [.ref 0 0] [[.list (.int .u8) b0_0 .no, .int .i64 b0_1]] κ = F132 k b0_0 b0_1 (fun x => κ ((.agg [.int .i64 x.1.1, .int .i64 x.1.2.1, .str x.1.2.2.1, .bool x.1.2.2.2], [[.list (.int .u8) x.2.1 .no, .int .i64 x.2.2]]) : Res)) := by
  intro k
  induction k with
  | zero => intros; rfl
  | succ k ih =>
    intro b0_0 b0_1 κ
    refine (ev_call' Try.prog cfg k 132 1 _ _ κ (by rfl)).trans ?_
    rw [← F22v1_d k (F22v1_ev k), ← F23_d k (F23_ev k), ← F26_d k (F26_ev k), ← F81_d k (F81_ev k), ← F166_d k (F166_ev k), ← F24_d k (F24_ev k), ← F25_d k (F25_ev k)]
    exact F132_k _ _ _ _ _ _ _ _ _ b0_0 b0_1 κ
def L84_0_B (gF132 : tF132) (gL84_0 : tL84_0) (κ : T13 × (List Int) × Int → Option Res) (p0 : Int) (p1 : Int) (p2 : ByteArray) (p3 : ByteArray) (p4 : Int) (p5 : Int) (p6 : T4) (p7 : ByteArray) (p8 : ByteArray) (p9 : Int) (p10 : Int) (p11 : T4) (p12 : (List Int)) (p13 : Int) (K : Int × T4 × (List Int) × Int → Option Res) : Option Res :=
  chk1 (if decide (p1 < p0) = true then
    (chk1 (gF132 p12 p13 fun x6 =>
     chk4 (if decide ((p11.length + ([x6.1] : List T2).length) * 40 ≤ 140737488355328) = true then chk3 (gL84_0 p0 (IntKind.wrap .i64 (p1 + (1 : Int))) p2 p3 p4 p5 p6 p7 p8 p9 p10 (p11 ++ ([x6.1] : List T2)) x6.2.1 x6.2.2 K) else none)))
   else
    (K (p1, (p11, (p12, p13)))))
def L84_0 : Nat → (T13 × (List Int) × Int → Option Res) → Int → Int → ByteArray → ByteArray → Int → Int → T4 → ByteArray → ByteArray → Int → Int → T4 → (List Int) → Int → (Int × T4 × (List Int) × Int → Option Res) → Option Res
  | 0, _, _, _, _, _, _, _, _, _, _, _, _, _, _, _, _ => none
  | k + 1, κ, p0, p1, p2, p3, p4, p5, p6, p7, p8, p9, p10, p11, p12, p13, K => L84_0_B (F132 k) (fun p0 p1 p2 p3 p4 p5 p6 p7 p8 p9 p10 p11 p12 p13 K => L84_0 k κ p0 p1 p2 p3 p4 p5 p6 p7 p8 p9 p10 p11 p12 p13 K) κ p0 p1 p2 p3 p4 p5 p6 p7 p8 p9 p10 p11 p12 p13 K
def L84_0_s : Tr SC := Tr.of (nthD (.one .undef) [.one (.ref 30 0), .one .undef, .one (.ref 2 0), .one (.ref 3 0), .one .undef, .one .undef, .one .undef, .one .undef, .one .undef, .one .undef, .one .undef, .one .undef, .one .undef, .one .undef, .one (.int .i64), .one (.int .i64)]) 5
def L84_0_b : Tr (List SC) := Tr.of (nthD [] [[], [], [.one .str, .one .str, .one (.int .i64), .one (.int .i64), .one (.list (.pair (.int .i64) (.pair (.int .i64) (.pair .str .bool))) (.own false false))], [.one .str, .one .str, .one (.int .i64), .one (.int .i64), .one (.list (.pair (.int .i64) (.pair (.int .i64) (.pair .str .bool))) (.own false false))], [], [], [], [], [], [], [], [], [], [], [], [], [], [], [], [], [], [], [], [], [], [], [], [], [], [], [.one (.list (.int .u8) .no), .one (.int .i64)]]) 5
def L84_0_m (g : Int → Int → ByteArray → ByteArray → Int → Int → T4 → ByteArray → ByteArray → Int → Int → T4 → (List Int) → Int → (Int × T4 × (List Int) × Int → Option Res) → Option Res) (lf : LoopF) : LoopF := fun p σ K => match pathEq p [true, true, false, true, false] with
  | true => match okSt 30 L84_0_s L84_0_b σ with
    | true => g (intOf (Tr.val .undef (Tr.rgt (Tr.rgt (Tr.rgt σ.slots))))) (intOf (Tr.val .undef (Tr.lft (Tr.lft (Tr.lft (Tr.lft σ.slots)))))) (stringOf (nth (Tr.val [] (Tr.rgt σ.boxes)) 0)) (stringOf (nth (Tr.val [] (Tr.rgt σ.boxes)) 1)) (intOf (nth (Tr.val [] (Tr.rgt σ.boxes)) 2)) (intOf (nth (Tr.val [] (Tr.rgt σ.boxes)) 3)) (listOf (.pair (.int .i64) (.pair (.int .i64) (.pair .str .bool))) (nth (Tr.val [] (Tr.rgt σ.boxes)) 4)) (stringOf (nth (Tr.val [] (Tr.lft (Tr.lft σ.boxes))) 0)) (stringOf (nth (Tr.val [] (Tr.lft (Tr.lft σ.boxes))) 1)) (intOf (nth (Tr.val [] (Tr.lft (Tr.lft σ.boxes))) 2)) (intOf (nth (Tr.val [] (Tr.lft (Tr.lft σ.boxes))) 3)) (listOf (.pair (.int .i64) (.pair (.int .i64) (.pair .str .bool))) (nth (Tr.val [] (Tr.lft (Tr.lft σ.boxes))) 4)) (listOf (.int .u8) (nth (Tr.val [] (Tr.rgt (Tr.rgt (Tr.rgt (Tr.rgt σ.boxes))))) 0)) (intOf (nth (Tr.val [] (Tr.rgt (Tr.rgt (Tr.rgt (Tr.rgt σ.boxes))))) 1)) (fun v => K (.exit 0) ⟨30, Tr.of (nthD .undef [.ref 30 0, .undef, .ref 2 0, .ref 3 0, .undef, .undef, .undef, .undef, .undef, .undef, .undef, .undef, .undef, .undef, .int .i64 (intOf (Tr.val .undef (Tr.rgt (Tr.rgt (Tr.rgt σ.slots))))), .int .i64 v.1]) 5, Tr.of (nthD [] [[], [], [.str (stringOf (nth (Tr.val [] (Tr.rgt σ.boxes)) 0)), .str (stringOf (nth (Tr.val [] (Tr.rgt σ.boxes)) 1)), .int .i64 (intOf (nth (Tr.val [] (Tr.rgt σ.boxes)) 2)), .int .i64 (intOf (nth (Tr.val [] (Tr.rgt σ.boxes)) 3)), .list (.pair (.int .i64) (.pair (.int .i64) (.pair .str .bool))) (listOf (.pair (.int .i64) (.pair (.int .i64) (.pair .str .bool))) (nth (Tr.val [] (Tr.rgt σ.boxes)) 4)) (.own false false)], [.str (stringOf (nth (Tr.val [] (Tr.lft (Tr.lft σ.boxes))) 0)), .str (stringOf (nth (Tr.val [] (Tr.lft (Tr.lft σ.boxes))) 1)), .int .i64 (intOf (nth (Tr.val [] (Tr.lft (Tr.lft σ.boxes))) 2)), .int .i64 (intOf (nth (Tr.val [] (Tr.lft (Tr.lft σ.boxes))) 3)), .list (.pair (.int .i64) (.pair (.int .i64) (.pair .str .bool))) v.2.1 (.own false false)], [], [], [], [], [], [], [], [], [], [], [], [], [], [], [], [], [], [], [], [], [], [], [], [], [], [], [.list (.int .u8) v.2.2.1 .no, .int .i64 v.2.2.2]]) 5⟩)
    | false => lf p σ K
  | false => lf p σ K
theorem L84_0_d (k : Nat) (κ : Res → Option Res) (h : ∀ (p0 : Int) (p1 : Int) (p2 : ByteArray) (p3 : ByteArray) (p4 : Int) (p5 : Int) (p6 : T4) (p7 : ByteArray) (p8 : ByteArray) (p9 : Int) (p10 : Int) (p11 : T4) (p12 : (List Int)) (p13 : Int) (K : Cont), (ev Try.prog cfg k).loop 84 1 κ [true, true, false, true, false] ⟨30, Tr.of (nthD .undef [.ref 30 0, .undef, .ref 2 0, .ref 3 0, .undef, .undef, .undef, .undef, .undef, .undef, .undef, .undef, .undef, .undef, .int .i64 p0, .int .i64 p1]) 5, Tr.of (nthD [] [[], [], [.str p2, .str p3, .int .i64 p4, .int .i64 p5, .list (.pair (.int .i64) (.pair (.int .i64) (.pair .str .bool))) p6 (.own false false)], [.str p7, .str p8, .int .i64 p9, .int .i64 p10, .list (.pair (.int .i64) (.pair (.int .i64) (.pair .str .bool))) p11 (.own false false)], [], [], [], [], [], [], [], [], [], [], [], [], [], [], [], [], [], [], [], [], [], [], [], [], [], [], [.list (.int .u8) p12 .no, .int .i64 p13]]) 5⟩ K = L84_0 k (fun x => κ ((.agg [.str x.1.1, .str x.1.2.1, .int .i64 x.1.2.2.1, .int .i64 x.1.2.2.2.1, .list (.pair (.int .i64) (.pair (.int .i64) (.pair .str .bool))) x.1.2.2.2.2 (.own false false)], [[.list (.int .u8) x.2.1 .no, .int .i64 x.2.2]]) : Res)) p0 p1 p2 p3 p4 p5 p6 p7 p8 p9 p10 p11 p12 p13 (fun v => K (.exit 0) ⟨30, Tr.of (nthD .undef [.ref 30 0, .undef, .ref 2 0, .ref 3 0, .undef, .undef, .undef, .undef, .undef, .undef, .undef, .undef, .undef, .undef, .int .i64 p0, .int .i64 v.1]) 5, Tr.of (nthD [] [[], [], [.str p2, .str p3, .int .i64 p4, .int .i64 p5, .list (.pair (.int .i64) (.pair (.int .i64) (.pair .str .bool))) p6 (.own false false)], [.str p7, .str p8, .int .i64 p9, .int .i64 p10, .list (.pair (.int .i64) (.pair (.int .i64) (.pair .str .bool))) v.2.1 (.own false false)], [], [], [], [], [], [], [], [], [], [], [], [], [], [], [], [], [], [], [], [], [], [], [], [], [], [], [.list (.int .u8) v.2.2.1 .no, .int .i64 v.2.2.2]]) 5⟩)) : L84_0_m (L84_0 k (fun x => κ ((.agg [.str x.1.1, .str x.1.2.1, .int .i64 x.1.2.2.1, .int .i64 x.1.2.2.2.1, .list (.pair (.int .i64) (.pair (.int .i64) (.pair .str .bool))) x.1.2.2.2.2 (.own false false)], [[.list (.int .u8) x.2.1 .no, .int .i64 x.2.2]]) : Res))) ((ev Try.prog cfg k).loop 84 1 κ) = (ev Try.prog cfg k).loop 84 1 κ := by
  funext p σ K
  unfold L84_0_m
  split
  · rename_i hp
    split
    · rename_i hs
      have e : mkSt 30 L84_0_s L84_0_b σ = ⟨30, Tr.of (nthD .undef [.ref 30 0, .undef, .ref 2 0, .ref 3 0, .undef, .undef, .undef, .undef, .undef, .undef, .undef, .undef, .undef, .undef, .int .i64 (intOf (Tr.val .undef (Tr.rgt (Tr.rgt (Tr.rgt σ.slots))))), .int .i64 (intOf (Tr.val .undef (Tr.lft (Tr.lft (Tr.lft (Tr.lft σ.slots))))))]) 5, Tr.of (nthD [] [[], [], [.str (stringOf (nth (Tr.val [] (Tr.rgt σ.boxes)) 0)), .str (stringOf (nth (Tr.val [] (Tr.rgt σ.boxes)) 1)), .int .i64 (intOf (nth (Tr.val [] (Tr.rgt σ.boxes)) 2)), .int .i64 (intOf (nth (Tr.val [] (Tr.rgt σ.boxes)) 3)), .list (.pair (.int .i64) (.pair (.int .i64) (.pair .str .bool))) (listOf (.pair (.int .i64) (.pair (.int .i64) (.pair .str .bool))) (nth (Tr.val [] (Tr.rgt σ.boxes)) 4)) (.own false false)], [.str (stringOf (nth (Tr.val [] (Tr.lft (Tr.lft σ.boxes))) 0)), .str (stringOf (nth (Tr.val [] (Tr.lft (Tr.lft σ.boxes))) 1)), .int .i64 (intOf (nth (Tr.val [] (Tr.lft (Tr.lft σ.boxes))) 2)), .int .i64 (intOf (nth (Tr.val [] (Tr.lft (Tr.lft σ.boxes))) 3)), .list (.pair (.int .i64) (.pair (.int .i64) (.pair .str .bool))) (listOf (.pair (.int .i64) (.pair (.int .i64) (.pair .str .bool))) (nth (Tr.val [] (Tr.lft (Tr.lft σ.boxes))) 4)) (.own false false)], [], [], [], [], [], [], [], [], [], [], [], [], [], [], [], [], [], [], [], [], [], [], [], [], [], [], [.list (.int .u8) (listOf (.int .u8) (nth (Tr.val [] (Tr.rgt (Tr.rgt (Tr.rgt (Tr.rgt σ.boxes))))) 0)) .no, .int .i64 (intOf (nth (Tr.val [] (Tr.rgt (Tr.rgt (Tr.rgt (Tr.rgt σ.boxes))))) 1))]]) 5⟩ := by kernel_rfl
      rw [pathEq_eq hp]
      exact (h (intOf (Tr.val .undef (Tr.rgt (Tr.rgt (Tr.rgt σ.slots))))) (intOf (Tr.val .undef (Tr.lft (Tr.lft (Tr.lft (Tr.lft σ.slots)))))) (stringOf (nth (Tr.val [] (Tr.rgt σ.boxes)) 0)) (stringOf (nth (Tr.val [] (Tr.rgt σ.boxes)) 1)) (intOf (nth (Tr.val [] (Tr.rgt σ.boxes)) 2)) (intOf (nth (Tr.val [] (Tr.rgt σ.boxes)) 3)) (listOf (.pair (.int .i64) (.pair (.int .i64) (.pair .str .bool))) (nth (Tr.val [] (Tr.rgt σ.boxes)) 4)) (stringOf (nth (Tr.val [] (Tr.lft (Tr.lft σ.boxes))) 0)) (stringOf (nth (Tr.val [] (Tr.lft (Tr.lft σ.boxes))) 1)) (intOf (nth (Tr.val [] (Tr.lft (Tr.lft σ.boxes))) 2)) (intOf (nth (Tr.val [] (Tr.lft (Tr.lft σ.boxes))) 3)) (listOf (.pair (.int .i64) (.pair (.int .i64) (.pair .str .bool))) (nth (Tr.val [] (Tr.lft (Tr.lft σ.boxes))) 4)) (listOf (.int .u8) (nth (Tr.val [] (Tr.rgt (Tr.rgt (Tr.rgt (Tr.rgt σ.boxes))))) 0)) (intOf (nth (Tr.val [] (Tr.rgt (Tr.rgt (Tr.rgt (Tr.rgt σ.boxes))))) 1)) K).symm.trans (congrArg (fun s => (ev Try.prog cfg k).loop 84 1 κ [true, true, false, true, false] s K) (e.symm.trans (okSt_eq hs).symm))
    · rfl
  · rfl
theorem L84_0_k (gF132 : tF132) (gL84_0 : tL84_0) (cf : CallF) (lf : LoopF) (κ : Res → Option Res) (p0 : Int) (p1 : Int) (p2 : ByteArray) (p3 : ByteArray) (p4 : Int) (p5 : Int) (p6 : T4) (p7 : ByteArray) (p8 : ByteArray) (p9 : Int) (p10 : Int) (p11 : T4) (p12 : (List Int)) (p13 : Int) (K : Cont) : evLp Try.prog cfg (F132_m gF132 cf) (L84_0_m gL84_0 lf) 84 1 κ [true, true, false, true, false] ⟨30, Tr.of (nthD .undef [.ref 30 0, .undef, .ref 2 0, .ref 3 0, .undef, .undef, .undef, .undef, .undef, .undef, .undef, .undef, .undef, .undef, .int .i64 p0, .int .i64 p1]) 5, Tr.of (nthD [] [[], [], [.str p2, .str p3, .int .i64 p4, .int .i64 p5, .list (.pair (.int .i64) (.pair (.int .i64) (.pair .str .bool))) p6 (.own false false)], [.str p7, .str p8, .int .i64 p9, .int .i64 p10, .list (.pair (.int .i64) (.pair (.int .i64) (.pair .str .bool))) p11 (.own false false)], [], [], [], [], [], [], [], [], [], [], [], [], [], [], [], [], [], [], [], [], [], [], [], [], [], [], [.list (.int .u8) p12 .no, .int .i64 p13]]) 5⟩ K = L84_0_B gF132 gL84_0 (fun x => κ ((.agg [.str x.1.1, .str x.1.2.1, .int .i64 x.1.2.2.1, .int .i64 x.1.2.2.2.1, .list (.pair (.int .i64) (.pair (.int .i64) (.pair .str .bool))) x.1.2.2.2.2 (.own false false)], [[.list (.int .u8) x.2.1 .no, .int .i64 x.2.2]]) : Res)) p0 p1 p2 p3 p4 p5 p6 p7 p8 p9 p10 p11 p12 p13 (fun v => K (.exit 0) ⟨30, Tr.of (nthD .undef [.ref 30 0, .undef, .ref 2 0, .ref 3 0, .undef, .undef, .undef, .undef, .undef, .undef, .undef, .undef, .undef, .undef, .int .i64 p0, .int .i64 v.1]) 5, Tr.of (nthD [] [[], [], [.str p2, .str p3, .int .i64 p4, .int .i64 p5, .list (.pair (.int .i64) (.pair (.int .i64) (.pair .str .bool))) p6 (.own false false)], [.str p7, .str p8, .int .i64 p9, .int .i64 p10, .list (.pair (.int .i64) (.pair (.int .i64) (.pair .str .bool))) v.2.1 (.own false false)], [], [], [], [], [], [], [], [], [], [], [], [], [], [], [], [], [], [], [], [], [], [], [], [], [], [], [.list (.int .u8) v.2.2.1 .no, .int .i64 v.2.2.2]]) 5⟩) := by
  kernel_rfl
theorem L84_0_ev : ∀ (k : Nat) (κ : Res → Option Res) (p0 : Int) (p1 : Int) (p2 : ByteArray) (p3 : ByteArray) (p4 : Int) (p5 : Int) (p6 : T4) (p7 : ByteArray) (p8 : ByteArray) (p9 : Int) (p10 : Int) (p11 : T4) (p12 : (List Int)) (p13 : Int) (K : Cont), (ev Try.prog cfg k).loop 84 1 κ [true, true, false, true, false] ⟨30, Tr.of (nthD .undef [.ref 30 0, .undef, .ref 2 0, .ref 3 0, .undef, .undef, .undef, .undef, .undef, .undef, .undef, .undef, .undef, .undef, .int .i64 p0, .int .i64 p1]) 5, Tr.of (nthD [] [[], [], [.str p2, .str p3, .int .i64 p4, .int .i64 p5, .list (.pair (.int .i64) (.pair (.int .i64) (.pair .str .bool))) p6 (.own false false)], [.str p7, .str p8, .int .i64 p9, .int .i64 p10, .list (.pair (.int .i64) (.pair (.int .i64) (.pair .str .bool))) p11 (.own false false)], [], [], [], [], [], [], [], [], [], [], [], [], [], [], [], [], [], [], [], [], [], [], [], [], [], [], [.list (.int .u8) p12 .no, .int .i64 p13]]) 5⟩ K = L84_0 k (fun x => κ ((.agg [.str x.1.1, .str x.1.2.1, .int .i64 x.1.2.2.1, .int .i64 x.1.2.2.2.1, .list (.pair (.int .i64) (.pair (.int .i64) (.pair .str .bool))) x.1.2.2.2.2 (.own false false)], [[.list (.int .u8) x.2.1 .no, .int .i64 x.2.2]]) : Res)) p0 p1 p2 p3 p4 p5 p6 p7 p8 p9 p10 p11 p12 p13 (fun v => K (.exit 0) ⟨30, Tr.of (nthD .undef [.ref 30 0, .undef, .ref 2 0, .ref 3 0, .undef, .undef, .undef, .undef, .undef, .undef, .undef, .undef, .undef, .undef, .int .i64 p0, .int .i64 v.1]) 5, Tr.of (nthD [] [[], [], [.str p2, .str p3, .int .i64 p4, .int .i64 p5, .list (.pair (.int .i64) (.pair (.int .i64) (.pair .str .bool))) p6 (.own false false)], [.str p7, .str p8, .int .i64 p9, .int .i64 p10, .list (.pair (.int .i64) (.pair (.int .i64) (.pair .str .bool))) v.2.1 (.own false false)], [], [], [], [], [], [], [], [], [], [], [], [], [], [], [], [], [], [], [], [], [], [], [], [], [], [], [.list (.int .u8) v.2.2.1 .no, .int .i64 v.2.2.2]]) 5⟩) := by
  intro k κ
  induction k with
  | zero => intro p0 p1 p2 p3 p4 p5 p6 p7 p8 p9 p10 p11 p12 p13 K; rfl
  | succ k ih =>
    intro p0 p1 p2 p3 p4 p5 p6 p7 p8 p9 p10 p11 p12 p13 K
    rw [ev_loop, ← F132_d k (F132_ev k), ← L84_0_d k κ ih]
    exact L84_0_k _ _ _ _ κ p0 p1 p2 p3 p4 p5 p6 p7 p8 p9 p10 p11 p12 p13 K
def F84_B (gF24 : tF24) (gF23 : tF23) (gF82v1 : tF82v1) (gF132 : tF132) (gF26 : tF26) (gL84_0 : tL84_0) (b0_0 : (List Int)) (b0_1 : Int) (κ : T13 × (List Int) × Int → Option Res) : Option Res :=
  chk2 (gF24 b0_0 b0_1 fun x1 =>
   chk2 (gF24 x1.2.1 x1.2.2 fun x2 =>
    chk2 (gF23 x2.2.1 x2.2.2 fun x3 =>
     chk2 (gF23 x3.2.1 x3.2.2 fun x4 =>
      chk8 (chk2 (gF82v1 (2 : Int) x4.2.1 x4.2.2 fun x5 =>
        chk1 (gL84_0 x5.1 (0 : Int) (⟨#[]⟩ : ByteArray) (⟨#[]⟩ : ByteArray) (0 : Int) (0 : Int) ([] : List T2) x1.1 x2.1 x3.1 x4.1 ([] : List T2) x5.2.1 x5.2.2 fun v7 =>
         chk1 (gF26 v7.2.2.1 v7.2.2.2 fun x8 =>
          chk2 (if (x8.1 != (0 : Int)) = true then
            (chk3 (κ (((⟨#[]⟩ : ByteArray), ((⟨#[]⟩ : ByteArray), ((0 : Int), ((0 : Int), ([] : List T2))))), (x8.2.1, x8.2.2))))
           else
            (chk2 (κ ((x1.1, (x2.1, (x3.1, (x4.1, v7.2.1)))), (x8.2.1, x8.2.2)))))))))))))
/-- (*lamplighter/codec.Reader).Event -/
def F84 : Nat → (List Int) → Int → (T13 × (List Int) × Int → Option Res) → Option Res
  | 0, _, _, _ => none
  | k + 1, b0_0, b0_1, κ => F84_B (F24 k) (F23 k) (F82v1 k) (F132 k) (F26 k) (L84_0 k κ) b0_0 b0_1 κ
def F84_s : List SC := [.one (.ref 0 0)]
def F84_b : List (List SC) := [[.one (.list (.int .u8) .no), .one (.int .i64)]]
def F84_m (g : (List Int) → Int → (T13 × (List Int) × Int → Option Res) → Option Res) (cf : CallF) : CallF := fun f args lent κ => match Nat.beq f 84 with
  | true => match okC F84_s args && okB F84_b lent with
    | true => g (listOf (.int .u8) (nth (nthB lent 0) 0)) (intOf (nth (nthB lent 0) 1)) (fun x => κ ((.agg [.str x.1.1, .str x.1.2.1, .int .i64 x.1.2.2.1, .int .i64 x.1.2.2.2.1, .list (.pair (.int .i64) (.pair (.int .i64) (.pair .str .bool))) x.1.2.2.2.2 (.own false false)], [[.list (.int .u8) x.2.1 .no, .int .i64 x.2.2]]) : Res))
    | false => cf f args lent κ
  | false => cf f args lent κ
theorem F84_d (k : Nat) (h : ∀ (b0_0 : (List Int)) (b0_1 : Int) (κ : Res → Option Res), (ev Try.prog cfg k).call 84 [.ref 0 0] [[.list (.int .u8) b0_0 .no, .int .i64 b0_1]] κ = F84 k b0_0 b0_1 (fun x => κ ((.agg [.str x.1.1, .str x.1.2.1, .int .i64 x.1.2.2.1, .int .i64 x.1.2.2.2.1, .list (.pair (.int .i64) (.pair (.int .i64) (.pair .str .bool))) x.1.2.2.2.2 (.own false false)], [[.list (.int .u8) x.2.1 .no, .int .i64 x.2.2]]) : Res))) : F84_m (F84 k) (ev Try.prog cfg k).call = (ev Try.prog cfg k).call := by
  funext f args lent κ
  unfold F84_m
  split
  · rename_i hp
    split
    · rename_i hs
      rw [Bool.and_eq_true] at hs
      have e : mkC F84_s 0 args = [.ref 0 0] := by kernel_rfl
      have e' : mkB F84_b 0 lent = [[.list (.int .u8) (listOf (.int .u8) (nth (nthB lent 0) 0)) .no, .int .i64 (intOf (nth (nthB lent 0) 1))]] := by kernel_rfl
      obtain rfl := Nat.eq_of_beq_eq_true hp
      exact (h (listOf (.int .u8) (nth (nthB lent 0) 0)) (intOf (nth (nthB lent 0) 1)) κ).symm.trans (cong2 (fun a l => (ev Try.prog cfg k).call 84 a l κ) (e.symm.trans (okC_eq hs.1).symm) (e'.symm.trans (okB_eq hs.2).symm))
    · rfl
  · rfl
theorem F84_k (gF24 : tF24) (gF23 : tF23) (gF82v1 : tF82v1) (gF132 : tF132) (gF26 : tF26) (gL84_0 : tL84_0) (cf : CallF) (lf : LoopF) (b0_0 : (List Int)) (b0_1 : Int) (κ : Res → Option Res) : evFn Try.prog cfg (F24_m gF24 (F23_m gF23 (F82v1_m gF82v1 (F132_m gF132 (F26_m gF26 cf))))) (L84_0_m gL84_0 lf) 84 [.ref 0 0] [[.list (.int .u8) b0_0 .no, .int .i64 b0_1]] κ = F84_B gF24 gF23 gF82v1 gF132 gF26 gL84_0 b0_0 b0_1 (fun x => κ ((.agg [.str x.1.1, .str x.1.2.1, .int .i64 x.1.2.2.1, .int .i64 x.1.2.2.2.1, .list (.pair (.int .i64) (.pair (.int .i64) (.pair .str .bool))) x.1.2.2.2.2 (.own false false)], [[.list (.int .u8) x.2.1 .no, .int .i64 x.2.2]]) : Res)) := by
  kernel_rfl
theorem F84_ev : ∀ (k : Nat) (b0_0 : (List Int)) (b0_1 : Int) (κ : Res → Option Res), (ev Try.prog cfg k).call 84 [.ref 0 0] [[.list (.int .u8) b0_0 .no, .int .i64 b0_1]] κ = F84 k b0_0 b0_1 (fun x => κ ((.agg [.str x.1.1, .str x.1.2.1, .int .i64 x.1.2.2.1, .int .i64 x.1.2.2.2.1, .list (.pair (.int .i64) (.pair (.int .i64) (.pair .str .bool))) x.1.2.2.2.2 (.own false false)], [[.list (.int .u8) x.2.1 .no, .int .i64 x.2.2]]) : Res)) := by
  intro k
  induction k with
  | zero => intros; rfl
  | succ k ih =>
    intro b0_0 b0_1 κ
    refine (ev_call' Try.prog cfg k 84 1 _ _ κ (by rfl)).trans ?_
    rw [← F24_d k (F24_ev k), ← F23_d k (F23_ev k), ← F82v1_d k (F82v1_ev k), ← F132_d k (F132_ev k), ← F26_d k (F26_ev k), ← L84_0_d k κ (L84_0_ev k κ)]
    exact F84_k _ _ _ _ _ _ _ _ b0_0 b0_1 κ
def L32_0_B (gF84 : tF84) (gL32_0 : tL32_0) (κ : T14 × Int → Option Res) (p0 : T14) (p1 : Int) (p2 : Int) (p3 : (List Int)) (p4 : Int) (K : T14 × Int × (List Int) × Int → Option Res) : Option Res :=
  chk1 (if decide (p2 < p1) = true then
    (chk1 (gF84 p3 p4 fun x3 =>
     chk4 (if decide ((p0.length + ([x3.1] : List T13).length) * 72 ≤ 140737488355328) = true then chk1 (gL32_0 (p0 ++ ([x3.1] : List T13)) p1 (IntKind.wrap .i64 (p2 + (1 : Int))) x3.2.1 x3.2.2 K) else none)))
   else
    (K (p0, (p2, (p3, p4)))))
def L32_0 : Nat → (T14 × Int → Option Res) → T14 → Int → Int → (List Int) → Int → (T14 × Int × (List Int) × Int → Option Res) → Option Res
  | 0, _, _, _, _, _, _, _ => none
  | k + 1, κ, p0, p1, p2, p3, p4, K => L32_0_B (F84 k) (fun p0 p1 p2 p3 p4 K => L32_0 k κ p0 p1 p2 p3 p4 K) κ p0 p1 p2 p3 p4 K
def L32_0_s : Tr SC := Tr.of (nthD (.one .undef) [.one .undef, .one .undef, .one .undef, .one .undef, .one (.ref 11 0), .one (.list (.pair .str (.pair .str (.pair (.int .i64) (.pair (.int .i64) (.list (.pair (.int .i64) (.pair (.int .i64) (.pair .str .bool)))))))) (.own false false)), .one .undef, .one .undef, .one .undef, .one .undef, .one .undef, .one (.ref 11 0), .one .undef, .one (.int .i64), .one (.int .i64)]) 6
def L32_0_b : Tr (List SC) := Tr.of (nthD [] [[], [], [], [], [], [], [], [], [], [], [], [.one (.list (.int .u8) .no), .one (.int .i64)]]) 6
def L32_0_m (g : T14 → Int → Int → (List Int) → Int → (T14 × Int × (List Int) × Int → Option Res) → Option Res) (lf : LoopF) : LoopF := fun p σ K => match pathEq p [true, true, true, true, false, true, false] with
  | true => match okSt 33 L32_0_s L32_0_b σ with
    | true => g (listOf (.pair .str (.pair .str (.pair (.int .i64) (.pair (.int .i64) (.list (.pair (.int .i64) (.pair (.int .i64) (.pair .str .bool)))))))) (Tr.val .undef (Tr.rgt (Tr.lft σ.slots)))) (intOf (Tr.val .undef (Tr.rgt (Tr.rgt (Tr.lft σ.slots))))) (intOf (Tr.val .undef (Tr.rgt (Tr.rgt (Tr.rgt σ.slots))))) (listOf (.int .u8) (nth (Tr.val [] (Tr.rgt (Tr.lft (Tr.lft σ.boxes)))) 0)) (intOf (nth (Tr.val [] (Tr.rgt (Tr.lft (Tr.lft σ.boxes)))) 1)) (fun v => K (.exit 0) ⟨33, Tr.of (nthD .undef [.undef, .undef, .undef, .undef, .ref 11 0, .list (.pair .str (.pair .str (.pair (.int .i64) (.pair (.int .i64) (.list (.pair (.int .i64) (.pair (.int .i64) (.pair .str .bool)))))))) v.1 (.own false false), .undef, .undef, .undef, .undef, .undef, .ref 11 0, .undef, .int .i64 (intOf (Tr.val .undef (Tr.rgt (Tr.rgt (Tr.lft σ.slots))))), .int .i64 v.2.1]) 6, Tr.of (nthD [] [[], [], [], [], [], [], [], [], [], [], [], [.list (.int .u8) v.2.2.1 .no, .int .i64 v.2.2.2]]) 6⟩)
    | false => lf p σ K
  | false => lf p σ K
theorem L32_0_d (k : Nat) (κ : Res → Option Res) (h : ∀ (p0 : T14) (p1 : Int) (p2 : Int) (p3 : (List Int)) (p4 : Int) (K : Cont), (ev Try.prog cfg k).loop 32 0 κ [true, true, true, true, false, true, false] ⟨33, Tr.of (nthD .undef [.undef, .undef, .undef, .undef, .ref 11 0, .list (.pair .str (.pair .str (.pair (.int .i64) (.pair (.int .i64) (.list (.pair (.int .i64) (.pair (.int .i64) (.pair .str .bool)))))))) p0 (.own false false), .undef, .undef, .undef, .undef, .undef, .ref 11 0, .undef, .int .i64 p1, .int .i64 p2]) 6, Tr.of (nthD [] [[], [], [], [], [], [], [], [], [], [], [], [.list (.int .u8) p3 .no, .int .i64 p4]]) 6⟩ K = L32_0 k (fun x => κ ((.tup [.list (.pair .str (.pair .str (.pair (.int .i64) (.pair (.int .i64) (.list (.pair (.int .i64) (.pair (.int .i64) (.pair .str .bool)))))))) x.1 (.own false false), .int .i64 x.2], []) : Res)) p0 p1 p2 p3 p4 (fun v => K (.exit 0) ⟨33, Tr.of (nthD .undef [.undef, .undef, .undef, .undef, .ref 11 0, .list (.pair .str (.pair .str (.pair (.int .i64) (.pair (.int .i64) (.list (.pair (.int .i64) (.pair (.int .i64) (.pair .str .bool)))))))) v.1 (.own false false), .undef, .undef, .undef, .undef, .undef, .ref 11 0, .undef, .int .i64 p1, .int .i64 v.2.1]) 6, Tr.of (nthD [] [[], [], [], [], [], [], [], [], [], [], [], [.list (.int .u8) v.2.2.1 .no, .int .i64 v.2.2.2]]) 6⟩)) : L32_0_m (L32_0 k (fun x => κ ((.tup [.list (.pair .str (.pair .str (.pair (.int .i64) (.pair (.int .i64) (.list (.pair (.int .i64) (.pair (.int .i64) (.pair .str .bool)))))))) x.1 (.own false false), .int .i64 x.2], []) : Res))) ((ev Try.prog cfg k).loop 32 0 κ) = (ev Try.prog cfg k).loop 32 0 κ := by
  funext p σ K
  unfold L32_0_m
  split
  · rename_i hp
    split
    · rename_i hs
      have e : mkSt 33 L32_0_s L32_0_b σ = ⟨33, Tr.of (nthD .undef [.undef, .undef, .undef, .undef, .ref 11 0, .list (.pair .str (.pair .str (.pair (.int .i64) (.pair (.int .i64) (.list (.pair (.int .i64) (.pair (.int .i64) (.pair .str .bool)))))))) (listOf (.pair .str (.pair .str (.pair (.int .i64) (.pair (.int .i64) (.list (.pair (.int .i64) (.pair (.int .i64) (.pair .str .bool)))))))) (Tr.val .undef (Tr.rgt (Tr.lft σ.slots)))) (.own false false), .undef, .undef, .undef, .undef, .undef, .ref 11 0, .undef, .int .i64 (intOf (Tr.val .undef (Tr.rgt (Tr.rgt (Tr.lft σ.slots))))), .int .i64 (intOf (Tr.val .undef (Tr.rgt (Tr.rgt (Tr.rgt σ.slots)))))]) 6, Tr.of (nthD [] [[], [], [], [], [], [], [], [], [], [], [], [.list (.int .u8) (listOf (.int .u8) (nth (Tr.val [] (Tr.rgt (Tr.lft (Tr.lft σ.boxes)))) 0)) .no, .int .i64 (intOf (nth (Tr.val [] (Tr.rgt (Tr.lft (Tr.lft σ.boxes)))) 1))]]) 6⟩ := by kernel_rfl
      rw [pathEq_eq hp]
      exact (h (listOf (.pair .str (.pair .str (.pair (.int .i64) (.pair (.int .i64) (.list (.pair (.int .i64) (.pair (.int .i64) (.pair .str .bool)))))))) (Tr.val .undef (Tr.rgt (Tr.lft σ.slots)))) (intOf (Tr.val .undef (Tr.rgt (Tr.rgt (Tr.lft σ.slots))))) (intOf (Tr.val .undef (Tr.rgt (Tr.rgt (Tr.rgt σ.slots))))) (listOf (.int .u8) (nth (Tr.val [] (Tr.rgt (Tr.lft (Tr.lft σ.boxes)))) 0)) (intOf (nth (Tr.val [] (Tr.rgt (Tr.lft (Tr.lft σ.boxes)))) 1)) K).symm.trans (congrArg (fun s => (ev Try.prog cfg k).loop 32 0 κ [true, true, true, true, false, true, false] s K) (e.symm.trans (okSt_eq hs).symm))
    · rfl
  · rfl
theorem L32_0_k (gF84 : tF84) (gL32_0 : tL32_0) (cf : CallF) (lf : LoopF) (κ : Res → Option Res) (p0 : T14) (p1 : Int) (p2 : Int) (p3 : (List Int)) (p4 : Int) (K : Cont) : evLp Try.prog cfg (F84_m gF84 cf) (L32_0_m gL32_0 lf) 32 0 κ [true, true, true, true, false, true, false] ⟨33, Tr.of (nthD .undef [.undef, .undef, .undef, .undef, .ref 11 0, .list (.pair .str (.pair .str (.pair (.int .i64) (.pair (.int .i64) (.list (.pair (.int .i64) (.pair (.int .i64) (.pair .str .bool)))))))) p0 (.own false false), .undef, .undef, .undef, .undef, .undef, .ref 11 0, .undef, .int .i64 p1, .int .i64 p2]) 6, Tr.of (nthD [] [[], [], [], [], [], [], [], [], [], [], [], [.list (.int .u8) p3 .no, .int .i64 p4]]) 6⟩ K = L32_0_B gF84 gL32_0 (fun x => κ ((.tup [.list (.pair .str (.pair .str (.pair (.int .i64) (.pair (.int .i64) (.list (.pair (.int .i64) (.pair (.int .i64) (.pair .str .bool)))))))) x.1 (.own false false), .int .i64 x.2], []) : Res)) p0 p1 p2 p3 p4 (fun v => K (.exit 0) ⟨33, Tr.of (nthD .undef [.undef, .undef, .undef, .undef, .ref 11 0, .list (.pair .str (.pair .str (.pair (.int .i64) (.pair (.int .i64) (.list (.pair (.int .i64) (.pair (.int .i64) (.pair .str .bool)))))))) v.1 (.own false false), .undef, .undef, .undef, .undef, .undef, .ref 11 0, .undef, .int .i64 p1, .int .i64 v.2.1]) 6, Tr.of (nthD [] [[], [], [], [], [], [], [], [], [], [], [], [.list (.int .u8) v.2.2.1 .no, .int .i64 v.2.2.2]]) 6⟩) := by
  kernel_rfl
theorem L32_0_ev : ∀ (k : Nat) (κ : Res → Option Res) (p0 : T14) (p1 : Int) (p2 : Int) (p3 : (List Int)) (p4 : Int) (K : Cont), (ev Try.prog cfg k).loop 32 0 κ [true, true, true, true, false, true, false] ⟨33, Tr.of (nthD .undef [.undef, .undef, .undef, .undef, .ref 11 0, .list (.pair .str (.pair .str (.pair (.int .i64) (.pair (.int .i64) (.list (.pair (.int .i64) (.pair (.int .i64) (.pair .str .bool)))))))) p0 (.own false false), .undef, .undef, .undef, .undef, .undef, .ref 11 0, .undef, .int .i64 p1, .int .i64 p2]) 6, Tr.of (nthD [] [[], [], [], [], [], [], [], [], [], [], [], [.list (.int .u8) p3 .no, .int .i64 p4]]) 6⟩ K = L32_0 k (fun x => κ ((.tup [.list (.pair .str (.pair .str (.pair (.int .i64) (.pair (.int .i64) (.list (.pair (.int .i64) (.pair (.int .i64) (.pair .str .bool)))))))) x.1 (.own false false), .int .i64 x.2], []) : Res)) p0 p1 p2 p3 p4 (fun v => K (.exit 0) ⟨33, Tr.of (nthD .undef [.undef, .undef, .undef, .undef, .ref 11 0, .list (.pair .str (.pair .str (.pair (.int .i64) (.pair (.int .i64) (.list (.pair (.int .i64) (.pair (.int .i64) (.pair .str .bool)))))))) v.1 (.own false false), .undef, .undef, .undef, .undef, .undef, .ref 11 0, .undef, .int .i64 p1, .int .i64 v.2.1]) 6, Tr.of (nthD [] [[], [], [], [], [], [], [], [], [], [], [], [.list (.int .u8) v.2.2.1 .no, .int .i64 v.2.2.2]]) 6⟩) := by
  intro k κ
  induction k with
  | zero => intro p0 p1 p2 p3 p4 K; rfl
  | succ k ih =>
    intro p0 p1 p2 p3 p4 K
    rw [ev_loop, ← F84_d k (F84_ev k), ← L32_0_d k κ ih]
    exact L32_0_k _ _ _ _ κ p0 p1 p2 p3 p4 K
def F32_B (gF21 : tF21) (gF82 : tF82) (gF84 : tF84) (gF29v2 : tF29v2) (gF81 : tF81) (gF26 : tF26) (gL32_0 : tL32_0) (a0 : (List Int)) (κ : T14 × Int → Option Res) : Option Res :=
  chk2 (if decide ((a0.length : Int) > (1048576 : Int)) = true then
    (κ (([] : List T13), (5 : Int)))
   else
    (chk1 (gF21 a0 fun x1 =>
     chk2 (gF82 (5 : Int) x1.1 x1.2 fun x2 =>
      chk1 (gL32_0 ([] : List T13) x2.1 (0 : Int) x2.2.1 x2.2.2 fun v4 =>
       chk1 (gF29v2 v4.2.2.1 v4.2.2.2 fun x5 =>
        chk2 (if decide (x5.1 > (0 : Int)) = true then
          (chk1 (gF81 (2 : Int) x5.2.1 x5.2.2 fun x6 =>
           chk2 (gF26 x6.1 x6.2 fun x7 =>
            chk2 (if (x7.1 != (0 : Int)) = true then
              (κ (([] : List T13), x7.1))
             else
              (κ (v4.1, (0 : Int)))))))
         else
          (chk1 (gF26 x5.2.1 x5.2.2 fun x8 =>
           chk2 (if (x8.1 != (0 : Int)) = true then
             (κ (([] : List T13), x8.1))
            else
             (κ (v4.1, (0 : Int)))))))))))))
/-- lamplighter/codec.Get -/
def F32 : Nat → (List Int) → (T14 × Int → Option Res) → Option Res
  | 0, _, _ => none
  | k + 1, a0, κ => F32_B (F21 k) (F82 k) (F84 k) (F29v2 k) (F81 k) (F26 k) (L32_0 k κ) a0 κ
def F32_s : List SC := [.one (.list (.int .u8) .no)]
def F32_b : List (List SC) := []
def F32_m (g : (List Int) → (T14 × Int → Option Res) → Option Res) (cf : CallF) : CallF := fun f args lent κ => match Nat.beq f 32 with
  | true => match okC F32_s args && okB F32_b lent with
    | true => g (listOf (.int .u8) (nth args 0)) (fun x => κ ((.tup [.list (.pair .str (.pair .str (.pair (.int .i64) (.pair (.int .i64) (.list (.pair (.int .i64) (.pair (.int .i64) (.pair .str .bool)))))))) x.1 (.own false false), .int .i64 x.2], []) : Res))
    | false => cf f args lent κ
  | false => cf f args lent κ
theorem F32_d (k : Nat) (h : ∀ (a0 : (List Int)) (κ : Res → Option Res), (ev Try.prog cfg k).call 32 [.list (.int .u8) a0 .no] [] κ = F32 k a0 (fun x => κ ((.tup [.list (.pair .str (.pair .str (.pair (.int .i64) (.pair (.int .i64) (.list (.pair (.int .i64) (.pair (.int .i64) (.pair .str .bool)))))))) x.1 (.own false false), .int .i64 x.2], []) : Res))) : F32_m (F32 k) (ev Try.prog cfg k).call = (ev Try.prog cfg k).call := by
  funext f args lent κ
  unfold F32_m
  split
  · rename_i hp
    split
    · rename_i hs
      rw [Bool.and_eq_true] at hs
      have e : mkC F32_s 0 args = [.list (.int .u8) (listOf (.int .u8) (nth args 0)) .no] := by kernel_rfl
      have e' : mkB F32_b 0 lent = [] := by kernel_rfl
      obtain rfl := Nat.eq_of_beq_eq_true hp
      exact (h (listOf (.int .u8) (nth args 0)) κ).symm.trans (cong2 (fun a l => (ev Try.prog cfg k).call 32 a l κ) (e.symm.trans (okC_eq hs.1).symm) (e'.symm.trans (okB_eq hs.2).symm))
    · rfl
  · rfl
theorem F32_k (gF21 : tF21) (gF82 : tF82) (gF84 : tF84) (gF29v2 : tF29v2) (gF81 : tF81) (gF26 : tF26) (gL32_0 : tL32_0) (cf : CallF) (lf : LoopF) (a0 : (List Int)) (κ : Res → Option Res) : evFn Try.prog cfg (F21_m gF21 (F82_m gF82 (F84_m gF84 (F29v2_m gF29v2 (F81_m gF81 (F26_m gF26 cf)))))) (L32_0_m gL32_0 lf) 32 [.list (.int .u8) a0 .no] [] κ = F32_B gF21 gF82 gF84 gF29v2 gF81 gF26 gL32_0 a0 (fun x => κ ((.tup [.list (.pair .str (.pair .str (.pair (.int .i64) (.pair (.int .i64) (.list (.pair (.int .i64) (.pair (.int .i64) (.pair .str .bool)))))))) x.1 (.own false false), .int .i64 x.2], []) : Res)) := by
  kernel_rfl
theorem F32_ev : ∀ (k : Nat) (a0 : (List Int)) (κ : Res → Option Res), (ev Try.prog cfg k).call 32 [.list (.int .u8) a0 .no] [] κ = F32 k a0 (fun x => κ ((.tup [.list (.pair .str (.pair .str (.pair (.int .i64) (.pair (.int .i64) (.list (.pair (.int .i64) (.pair (.int .i64) (.pair .str .bool)))))))) x.1 (.own false false), .int .i64 x.2], []) : Res)) := by
  intro k
  induction k with
  | zero => intros; rfl
  | succ k ih =>
    intro a0 κ
    refine (ev_call' Try.prog cfg k 32 0 _ _ κ (by rfl)).trans ?_
    rw [← F21_d k (F21_ev k), ← F82_d k (F82_ev k), ← F84_d k (F84_ev k), ← F29v2_d k (F29v2_ev k), ← F81_d k (F81_ev k), ← F26_d k (F26_ev k), ← L32_0_d k κ (L32_0_ev k κ)]
    exact F32_k _ _ _ _ _ _ _ _ _ a0 κ
def L86_0_B (gF15 : tF15) (gL86_0 : tL86_0) (κ : (List Int) → Option Res) (p0 : (List (Int × Int))) (p1 : Int) (p2 : Int) (p3 : (List Int)) (K : Int × (List Int) → Option Res) : Option Res :=
  chk1 (if decide (p2 < p1) = true then
    (if (true && (decide ((0 : Int) ≤ p2) && decide (p2 < (p0.length : Int)))) = true then
     (chk4 (gF15 ((p0.getD p2.toNat ((0 : Int), (0 : Int))).1) p3 fun x2 =>
      chk2 (gF15 ((p0.getD p2.toNat ((0 : Int), (0 : Int))).2) x2 fun x3 =>
       chk2 (gL86_0 p0 p1 (IntKind.wrap .i64 (p2 + (1 : Int))) x3 K))))
    else
     (none))
   else
    (K (p2, p3)))
def L86_0 : Nat → ((List Int) → Option Res) → (List (Int × Int)) → Int → Int → (List Int) → (Int × (List Int) → Option Res) → Option Res
  | 0, _, _, _, _, _, _ => none
  | k + 1, κ, p0, p1, p2, p3, K => L86_0_B (F15 k) (fun p0 p1 p2 p3 K => L86_0 k κ p0 p1 p2 p3 K) κ p0 p1 p2 p3 K
def L86_0_s : Tr SC := Tr.of (nthD (.one .undef) [.one (.ref 26 0), .one .undef, .one .undef, .one .undef, .one .undef, .one .undef, .one .undef, .one .undef, .one .undef, .one .undef, .one .undef, .one (.list (.pair (.int .i64) (.int .i64)) .no), .one (.int .i64), .one (.int .i64)]) 5
def L86_0_b : Tr (List SC) := Tr.of (nthD [] [[], [], [], [], [], [], [], [], [], [], [], [], [], [], [], [], [], [], [], [], [], [], [], [], [], [], [.one (.list (.int .u8) (.own false false))]]) 5
def L86_0_m (g : (List (Int × Int)) → Int → Int → (List Int) → (Int × (List Int) → Option Res) → Option Res) (lf : LoopF) : LoopF := fun p σ K => match pathEq p [true, true, false] with
  | true => match okSt 26 L86_0_s L86_0_b σ with
    | true => g (listOf (.pair (.int .i64) (.int .i64)) (Tr.val .undef (Tr.rgt (Tr.lft (Tr.lft σ.slots))))) (intOf (Tr.val .undef (Tr.rgt (Tr.lft (Tr.rgt σ.slots))))) (intOf (Tr.val .undef (Tr.rgt (Tr.rgt (Tr.lft σ.slots))))) (listOf (.int .u8) (nth (Tr.val [] (Tr.rgt (Tr.lft (Tr.rgt (Tr.rgt σ.boxes))))) 0)) (fun v => K (.exit 0) ⟨26, Tr.of (nthD .undef [.ref 26 0, .undef, .undef, .undef, .undef, .undef, .undef, .undef, .undef, .undef, .undef, .list (.pair (.int .i64) (.int .i64)) (listOf (.pair (.int .i64) (.int .i64)) (Tr.val .undef (Tr.rgt (Tr.lft (Tr.lft σ.slots))))) .no, .int .i64 (intOf (Tr.val .undef (Tr.rgt (Tr.lft (Tr.rgt σ.slots))))), .int .i64 v.1]) 5, Tr.of (nthD [] [[], [], [], [], [], [], [], [], [], [], [], [], [], [], [], [], [], [], [], [], [], [], [], [], [], [], [.list (.int .u8) v.2 (.own false false)]]) 5⟩)
    | false => lf p σ K
  | false => lf p σ K
theorem L86_0_d (k : Nat) (κ : Res → Option Res) (h : ∀ (p0 : (List (Int × Int))) (p1 : Int) (p2 : Int) (p3 : (List Int)) (K : Cont), (ev Try.prog cfg k).loop 86 1 κ [true, true, false] ⟨26, Tr.of (nthD .undef [.ref 26 0, .undef, .undef, .undef, .undef, .undef, .undef, .undef, .undef, .undef, .undef, .list (.pair (.int .i64) (.int .i64)) p0 .no, .int .i64 p1, .int .i64 p2]) 5, Tr.of (nthD [] [[], [], [], [], [], [], [], [], [], [], [], [], [], [], [], [], [], [], [], [], [], [], [], [], [], [], [.list (.int .u8) p3 (.own false false)]]) 5⟩ K = L86_0 k (fun x => κ ((.tup [], [[.list (.int .u8) x (.own false false)]]) : Res)) p0 p1 p2 p3 (fun v => K (.exit 0) ⟨26, Tr.of (nthD .undef [.ref 26 0, .undef, .undef, .undef, .undef, .undef, .undef, .undef, .undef, .undef, .undef, .list (.pair (.int .i64) (.int .i64)) p0 .no, .int .i64 p1, .int .i64 v.1]) 5, Tr.of (nthD [] [[], [], [], [], [], [], [], [], [], [], [], [], [], [], [], [], [], [], [], [], [], [], [], [], [], [], [.list (.int .u8) v.2 (.own false false)]]) 5⟩)) : L86_0_m (L86_0 k (fun x => κ ((.tup [], [[.list (.int .u8) x (.own false false)]]) : Res))) ((ev Try.prog cfg k).loop 86 1 κ) = (ev Try.prog cfg k).loop 86 1 κ := by
  funext p σ K
  unfold L86_0_m
  split
  · rename_i hp
    split
    · rename_i hs
      have e : mkSt 26 L86_0_s L86_0_b σ = ⟨26, Tr.of (nthD .undef [.ref 26 0, .undef, .undef, .undef, .undef, .undef, .undef, .undef, .undef, .undef, .undef, .list (.pair (.int .i64) (.int .i64)) (listOf (.pair (.int .i64) (.int .i64)) (Tr.val .undef (Tr.rgt (Tr.lft (Tr.lft σ.slots))))) .no, .int .i64 (intOf (Tr.val .undef (Tr.rgt (Tr.lft (Tr.rgt σ.slots))))), .int .i64 (intOf (Tr.val .undef (Tr.rgt (Tr.rgt (Tr.lft σ.slots)))))]) 5, Tr.of (nthD [] [[], [], [], [], [], [], [], [], [], [], [], [], [], [], [], [], [], [], [], [], [], [], [], [], [], [], [.list (.int .u8) (listOf (.int .u8) (nth (Tr.val [] (Tr.rgt (Tr.lft (Tr.rgt (Tr.rgt σ.boxes))))) 0)) (.own false false)]]) 5⟩ := by kernel_rfl
      rw [pathEq_eq hp]
      exact (h (listOf (.pair (.int .i64) (.int .i64)) (Tr.val .undef (Tr.rgt (Tr.lft (Tr.lft σ.slots))))) (intOf (Tr.val .undef (Tr.rgt (Tr.lft (Tr.rgt σ.slots))))) (intOf (Tr.val .undef (Tr.rgt (Tr.rgt (Tr.lft σ.slots))))) (listOf (.int .u8) (nth (Tr.val [] (Tr.rgt (Tr.lft (Tr.rgt (Tr.rgt σ.boxes))))) 0)) K).symm.trans (congrArg (fun s => (ev Try.prog cfg k).loop 86 1 κ [true, true, false] s K) (e.symm.trans (okSt_eq hs).symm))
    · rfl
  · rfl
theorem L86_0_k (gF15 : tF15) (gL86_0 : tL86_0) (cf : CallF) (lf : LoopF) (κ : Res → Option Res) (p0 : (List (Int × Int))) (p1 : Int) (p2 : Int) (p3 : (List Int)) (K : Cont) : evLp Try.prog cfg (F15_m gF15 cf) (L86_0_m gL86_0 lf) 86 1 κ [true, true, false] ⟨26, Tr.of (nthD .undef [.ref 26 0, .undef, .undef, .undef, .undef, .undef, .undef, .undef, .undef, .undef, .undef, .list (.pair (.int .i64) (.int .i64)) p0 .no, .int .i64 p1, .int .i64 p2]) 5, Tr.of (nthD [] [[], [], [], [], [], [], [], [], [], [], [], [], [], [], [], [], [], [], [], [], [], [], [], [], [], [], [.list (.int .u8) p3 (.own false false)]]) 5⟩ K = L86_0_B gF15 gL86_0 (fun x => κ ((.tup [], [[.list (.int .u8) x (.own false false)]]) : Res)) p0 p1 p2 p3 (fun v => K (.exit 0) ⟨26, Tr.of (nthD .undef [.ref 26 0, .undef, .undef, .undef, .undef, .undef, .undef, .undef, .undef, .undef, .undef, .list (.pair (.int .i64) (.int .i64)) p0 .no, .int .i64 p1, .int .i64 v.1]) 5, Tr.of (nthD [] [[], [], [], [], [], [], [], [], [], [], [], [], [], [], [], [], [], [], [], [], [], [], [], [], [], [], [.list (.int .u8) v.2 (.own false false)]]) 5⟩) := by
  kernel_rfl
theorem L86_0_ev : ∀ (k : Nat) (κ : Res → Option Res) (p0 : (List (Int × Int))) (p1 : Int) (p2 : Int) (p3 : (List Int)) (K : Cont), (ev Try.prog cfg k).loop 86 1 κ [true, true, false] ⟨26, Tr.of (nthD .undef [.ref 26 0, .undef, .undef, .undef, .undef, .undef, .undef, .undef, .undef, .undef, .undef, .list (.pair (.int .i64) (.int .i64)) p0 .no, .int .i64 p1, .int .i64 p2]) 5, Tr.of (nthD [] [[], [], [], [], [], [], [], [], [], [], [], [], [], [], [], [], [], [], [], [], [], [], [], [], [], [], [.list (.int .u8) p3 (.own false false)]]) 5⟩ K = L86_0 k (fun x => κ ((.tup [], [[.list (.int .u8) x (.own false false)]]) : Res)) p0 p1 p2 p3 (fun v => K (.exit 0) ⟨26, Tr.of (nthD .undef [.ref 26 0, .undef, .undef, .undef, .undef, .undef, .undef, .undef, .undef, .undef, .undef, .list (.pair (.int .i64) (.int .i64)) p0 .no, .int .i64 p1, .int .i64 v.1]) 5, Tr.of (nthD [] [[], [], [], [], [], [], [], [], [], [], [], [], [], [], [], [], [], [], [], [], [], [], [], [], [], [], [.list (.int .u8) v.2 (.own false false)]]) 5⟩) := by
  intro k κ
  induction k with
  | zero => intro p0 p1 p2 p3 K; rfl
  | succ k ih =>
    intro p0 p1 p2 p3 K
    rw [ev_loop, ← F15_d k (F15_ev k), ← L86_0_d k κ ih]
    exact L86_0_k _ _ _ _ κ p0 p1 p2 p3 K
def F86_B (gF13 : tF13) (gF15 : tF15) (gL86_0 : tL86_0) (a1 : (List (Int × Int))) (b0_0 : (List Int)) (κ : (List Int) → Option Res) : Option Res :=
  chk3 (gF13 (IntKind.wrap .u64 ((a1.length : Int))) b0_0 fun x1 =>
   chk2 (gL86_0 a1 (a1.length : Int) (0 : Int) x1 fun v4 =>
    κ v4.2))
/-- (*lamplighter/codec.Writer).Pairs -/
def F86 : Nat → (List (Int × Int)) → (List Int) → ((List Int) → Option Res) → Option Res
  | 0, _, _, _ => none
  | k + 1, a1, b0_0, κ => F86_B (F13 k) (F15 k) (L86_0 k κ) a1 b0_0 κ
def F86_s : List SC := [.one (.ref 0 0), .one (.list (.pair (.int .i64) (.int .i64)) .no)]
def F86_b : List (List SC) := [[.one (.list (.int .u8) (.own false false))]]
def F86_m (g : (List (Int × Int)) → (List Int) → ((List Int) → Option Res) → Option Res) (cf : CallF) : CallF := fun f args lent κ => match Nat.beq f 86 with
  | true => match okC F86_s args && okB F86_b lent with
    | true => g (listOf (.pair (.int .i64) (.int .i64)) (nth args 1)) (listOf (.int .u8) (nth (nthB lent 0) 0)) (fun x => κ ((.tup [], [[.list (.int .u8) x (.own false false)]]) : Res))
    | false => cf f args lent κ
  | false => cf f args lent κ
theorem F86_d (k : Nat) (h : ∀ (a1 : (List (Int × Int))) (b0_0 : (List Int)) (κ : Res → Option Res), (ev Try.prog cfg k).call 86 [.ref 0 0, .list (.pair (.int .i64) (.int .i64)) a1 .no] [[.list (.int .u8) b0_0 (.own false false)]] κ = F86 k a1 b0_0 (fun x => κ ((.tup [], [[.list (.int .u8) x (.own false false)]]) : Res))) : F86_m (F86 k) (ev Try.prog cfg k).call = (ev Try.prog cfg k).call := by
  funext f args lent κ
  unfold F86_m
  split
  · rename_i hp
    split
    · rename_i hs
      rw [Bool.and_eq_true] at hs
      have e : mkC F86_s 0 args = [.ref 0 0, .list (.pair (.int .i64) (.int .i64)) (listOf (.pair (.int .i64) (.int .i64)) (nth args 1)) .no] := by kernel_rfl
      have e' : mkB F86_b 0 lent = [[.list (.int .u8) (listOf (.int .u8) (nth (nthB lent 0) 0)) (.own false false)]] := by kernel_rfl
      obtain rfl := Nat.eq_of_beq_eq_true hp
      exact (h (listOf (.pair (.int .i64) (.int .i64)) (nth args 1)) (listOf (.int .u8) (nth (nthB lent 0) 0)) κ).symm.trans (cong2 (fun a l => (ev Try.prog cfg k).call 86 a l κ) (e.symm.trans (okC_eq hs.1).symm) (e'.symm.trans (okB_eq hs.2).symm))
    · rfl
  · rfl
theorem F86_k (gF13 : tF13) (gF15 : tF15) (gL86_0 : tL86_0) (cf : CallF) (lf : LoopF) (a1 : (List (Int × Int))) (b0_0 : (List Int)) (κ : Res → Option Res) : evFn Try.prog cfg (F13_m gF13 (F15_m gF15 cf)) (L86_0_m gL86_0 lf) 86 [.ref 0 0, .list (.pair (.int .i64) (.int .i64)) a1 .no] [[.list (.int .u8) b0_0 (.own false false)]] κ = F86_B gF13 gF15 gL86_0 a1 b0_0 (fun x => κ ((.tup [], [[.list (.int .u8) x (.own false false)]]) : Res)) := by
  kernel_rfl
theorem F86_ev : ∀ (k : Nat) (a1 : (List (Int × Int))) (b0_0 : (List Int)) (κ : Res → Option Res), (ev Try.prog cfg k).call 86 [.ref 0 0, .list (.pair (.int .i64) (.int .i64)) a1 .no] [[.list (.int .u8) b0_0 (.own false false)]] κ = F86 k a1 b0_0 (fun x => κ ((.tup [], [[.list (.int .u8) x (.own false false)]]) : Res)) := by
  intro k
  induction k with
  | zero => intros; rfl
  | succ k ih =>
    intro a1 b0_0 κ
    refine (ev_call' Try.prog cfg k 86 1 _ _ κ (by rfl)).trans ?_
    rw [← F13_d k (F13_ev k), ← F15_d k (F15_ev k), ← L86_0_d k κ (L86_0_ev k κ)]
    exact F86_k _ _ _ _ _ a1 b0_0 κ
def F34_B (gF13 : tF13) (gF17 : tF17) (gF15 : tF15) (gF86 : tF86) (a1 : T11) (b0_0 : (List Int)) (κ : (List Int) → Option Res) : Option Res :=
  chk3 (gF13 (IntKind.wrap .u64 (a1.1)) b0_0 fun x1 =>
   chk2 (gF17 a1.2.1 x1 fun x2 =>
    chk2 (gF15 a1.2.2.1 x2 fun x3 =>
     chk2 (gF17 a1.2.2.2.1 x3 fun x4 =>
      chk2 (gF15 a1.2.2.2.2.1 x4 fun x5 =>
       chk2 (gF15 a1.2.2.2.2.2.1 x5 fun x6 =>
        chk2 (gF86 a1.2.2.2.2.2.2 x6 fun x7 =>
         chk1 (κ x7))))))))
/-- (*lamplighter/codec.Writer).Out -/
def F34 : Nat → T11 → (List Int) → ((List Int) → Option Res) → Option Res
  | 0, _, _, _ => none
  | k + 1, a1, b0_0, κ => F34_B (F13 k) (F17 k) (F15 k) (F86 k) a1 b0_0 κ
def F34_s : List SC := [.one (.ref 0 0), .agg [.int .i64, .str, .int .i64, .str, .int .i64, .int .i64, .list (.pair (.int .i64) (.int .i64)) .no]]
def F34_b : List (List SC) := [[.one (.list (.int .u8) (.own false false))]]
def F34_m (g : T11 → (List Int) → ((List Int) → Option Res) → Option Res) (cf : CallF) : CallF := fun f args lent κ => match Nat.beq f 34 with
  | true => match okC F34_s args && okB F34_b lent with
    | true => g ((intOf (nth (aggOf (nth args 1)) 0)), ((stringOf (nth (aggOf (nth args 1)) 1)), ((intOf (nth (aggOf (nth args 1)) 2)), ((stringOf (nth (aggOf (nth args 1)) 3)), ((intOf (nth (aggOf (nth args 1)) 4)), ((intOf (nth (aggOf (nth args 1)) 5)), (listOf (.pair (.int .i64) (.int .i64)) (nth (aggOf (nth args 1)) 6)))))))) (listOf (.int .u8) (nth (nthB lent 0) 0)) (fun x => κ ((.tup [], [[.list (.int .u8) x (.own false false)]]) : Res))
    | false => cf f args lent κ
  | false => cf f args lent κ
theorem F34_d (k : Nat) (h : ∀ (a1 : T11) (b0_0 : (List Int)) (κ : Res → Option Res), (ev Try.prog cfg k).call 34 [.ref 0 0, .agg [.int .i64 a1.1, .str a1.2.1, .int .i64 a1.2.2.1, .str a1.2.2.2.1, .int .i64 a1.2.2.2.2.1, .int .i64 a1.2.2.2.2.2.1, .list (.pair (.int .i64) (.int .i64)) a1.2.2.2.2.2.2 .no]] [[.list (.int .u8) b0_0 (.own false false)]] κ = F34 k a1 b0_0 (fun x => κ ((.tup [], [[.list (.int .u8) x (.own false false)]]) : Res))) : F34_m (F34 k) (ev Try.prog cfg k).call = (ev Try.prog cfg k).call := by
  funext f args lent κ
  unfold F34_m
  split
  · rename_i hp
    split
    · rename_i hs
      rw [Bool.and_eq_true] at hs
      have e : mkC F34_s 0 args = [.ref 0 0, .agg [.int .i64 (intOf (nth (aggOf (nth args 1)) 0)), .str (stringOf (nth (aggOf (nth args 1)) 1)), .int .i64 (intOf (nth (aggOf (nth args 1)) 2)), .str (stringOf (nth (aggOf (nth args 1)) 3)), .int .i64 (intOf (nth (aggOf (nth args 1)) 4)), .int .i64 (intOf (nth (aggOf (nth args 1)) 5)), .list (.pair (.int .i64) (.int .i64)) (listOf (.pair (.int .i64) (.int .i64)) (nth (aggOf (nth args 1)) 6)) .no]] := by kernel_rfl
      have e' : mkB F34_b 0 lent = [[.list (.int .u8) (listOf (.int .u8) (nth (nthB lent 0) 0)) (.own false false)]] := by kernel_rfl
      obtain rfl := Nat.eq_of_beq_eq_true hp
      exact (h ((intOf (nth (aggOf (nth args 1)) 0)), ((stringOf (nth (aggOf (nth args 1)) 1)), ((intOf (nth (aggOf (nth args 1)) 2)), ((stringOf (nth (aggOf (nth args 1)) 3)), ((intOf (nth (aggOf (nth args 1)) 4)), ((intOf (nth (aggOf (nth args 1)) 5)), (listOf (.pair (.int .i64) (.int .i64)) (nth (aggOf (nth args 1)) 6)))))))) (listOf (.int .u8) (nth (nthB lent 0) 0)) κ).symm.trans (cong2 (fun a l => (ev Try.prog cfg k).call 34 a l κ) (e.symm.trans (okC_eq hs.1).symm) (e'.symm.trans (okB_eq hs.2).symm))
    · rfl
  · rfl
theorem F34_k (gF13 : tF13) (gF17 : tF17) (gF15 : tF15) (gF86 : tF86) (cf : CallF) (lf : LoopF) (a1 : T11) (b0_0 : (List Int)) (κ : Res → Option Res) : evFn Try.prog cfg (F13_m gF13 (F17_m gF17 (F15_m gF15 (F86_m gF86 cf)))) lf 34 [.ref 0 0, .agg [.int .i64 a1.1, .str a1.2.1, .int .i64 a1.2.2.1, .str a1.2.2.2.1, .int .i64 a1.2.2.2.2.1, .int .i64 a1.2.2.2.2.2.1, .list (.pair (.int .i64) (.int .i64)) a1.2.2.2.2.2.2 .no]] [[.list (.int .u8) b0_0 (.own false false)]] κ = F34_B gF13 gF17 gF15 gF86 a1 b0_0 (fun x => κ ((.tup [], [[.list (.int .u8) x (.own false false)]]) : Res)) := by
  kernel_rfl
theorem F34_ev : ∀ (k : Nat) (a1 : T11) (b0_0 : (List Int)) (κ : Res → Option Res), (ev Try.prog cfg k).call 34 [.ref 0 0, .agg [.int .i64 a1.1, .str a1.2.1, .int .i64 a1.2.2.1, .str a1.2.2.2.1, .int .i64 a1.2.2.2.2.1, .int .i64 a1.2.2.2.2.2.1, .list (.pair (.int .i64) (.int .i64)) a1.2.2.2.2.2.2 .no]] [[.list (.int .u8) b0_0 (.own false false)]] κ = F34 k a1 b0_0 (fun x => κ ((.tup [], [[.list (.int .u8) x (.own false false)]]) : Res)) := by
  intro k
  induction k with
  | zero => intros; rfl
  | succ k ih =>
    intro a1 b0_0 κ
    refine (ev_call' Try.prog cfg k 34 1 _ _ κ (by rfl)).trans ?_
    rw [← F13_d k (F13_ev k), ← F17_d k (F17_ev k), ← F15_d k (F15_ev k), ← F86_d k (F86_ev k)]
    exact F34_k _ _ _ _ _ _ a1 b0_0 κ
def L87_0_B (gF23 : tF23) (gL87_0 : tL87_0) (κ : (List (Int × Int)) × (List Int) × Int → Option Res) (p0 : (List (Int × Int))) (p1 : Int) (p2 : Int) (p3 : (List Int)) (p4 : Int) (K : (List (Int × Int)) × Int × (List Int) × Int → Option Res) : Option Res :=
  chk1 (if decide (p2 < p1) = true then
    (chk1 (gF23 p3 p4 fun x2 =>
     chk2 (gF23 x2.2.1 x2.2.2 fun x3 =>
      chk7 (if decide ((p0.length + ([(x2.1, x3.1)] : List (Int × Int)).length) * 16 ≤ 140737488355328) = true then chk1 (gL87_0 (p0 ++ ([(x2.1, x3.1)] : List (Int × Int))) p1 (IntKind.wrap .i64 (p2 + (1 : Int))) x3.2.1 x3.2.2 K) else none))))
   else
    (K (p0, (p2, (p3, p4)))))
def L87_0 : Nat → ((List (Int × Int)) × (List Int) × Int → Option Res) → (List (Int × Int)) → Int → Int → (List Int) → Int → ((List (Int × Int)) × Int × (List Int) × Int → Option Res) → Option Res
  | 0, _, _, _, _, _, _, _ => none
  | k + 1, κ, p0, p1, p2, p3, p4, K => L87_0_B (F23 k) (fun p0 p1 p2 p3 p4 K => L87_0 k κ p0 p1 p2 p3 p4 K) κ p0 p1 p2 p3 p4 K
def L87_0_s : Tr SC := Tr.of (nthD (.one .undef) [.one (.ref 21 0), .one .undef, .one .undef, .one (.list (.pair (.int .i64) (.int .i64)) (.own false false)), .one .undef, .one (.int .i64), .one (.int .i64)]) 5
def L87_0_b : Tr (List SC) := Tr.of (nthD [] [[], [], [], [], [], [], [], [], [], [], [], [], [], [], [], [], [], [], [], [], [], [.one (.list (.int .u8) .no), .one (.int .i64)]]) 5
def L87_0_m (g : (List (Int × Int)) → Int → Int → (List Int) → Int → ((List (Int × Int)) × Int × (List Int) × Int → Option Res) → Option Res) (lf : LoopF) : LoopF := fun p σ K => match pathEq p [true, true, false, true, false] with
  | true => match okSt 21 L87_0_s L87_0_b σ with
    | true => g (listOf (.pair (.int .i64) (.int .i64)) (Tr.val .undef (Tr.lft (Tr.lft σ.slots)))) (intOf (Tr.val .undef (Tr.rgt (Tr.lft σ.slots)))) (intOf (Tr.val .undef (Tr.rgt (Tr.rgt σ.slots)))) (listOf (.int .u8) (nth (Tr.val [] (Tr.lft (Tr.rgt (Tr.rgt (Tr.lft σ.boxes))))) 0)) (intOf (nth (Tr.val [] (Tr.lft (Tr.rgt (Tr.rgt (Tr.lft σ.boxes))))) 1)) (fun v => K (.exit 0) ⟨21, Tr.of (nthD .undef [.ref 21 0, .undef, .undef, .list (.pair (.int .i64) (.int .i64)) v.1 (.own false false), .undef, .int .i64 (intOf (Tr.val .undef (Tr.rgt (Tr.lft σ.slots)))), .int .i64 v.2.1]) 5, Tr.of (nthD [] [[], [], [], [], [], [], [], [], [], [], [], [], [], [], [], [], [], [], [], [], [], [.list (.int .u8) v.2.2.1 .no, .int .i64 v.2.2.2]]) 5⟩)
    | false => lf p σ K
  | false => lf p σ K
theorem L87_0_d (k : Nat) (κ : Res → Option Res) (h : ∀ (p0 : (List (Int × Int))) (p1 : Int) (p2 : Int) (p3 : (List Int)) (p4 : Int) (K : Cont), (ev Try.prog cfg k).loop 87 1 κ [true, true, false, true, false] ⟨21, Tr.of (nthD .undef [.ref 21 0, .undef, .undef, .list (.pair (.int .i64) (.int .i64)) p0 (.own false false), .undef, .int .i64 p1, .int .i64 p2]) 5, Tr.of (nthD [] [[], [], [], [], [], [], [], [], [], [], [], [], [], [], [], [], [], [], [], [], [], [.list (.int .u8) p3 .no, .int .i64 p4]]) 5⟩ K = L87_0 k (fun x => κ ((.list (.pair (.int .i64) (.int .i64)) x.1 (.own false false), [[.list (.int .u8) x.2.1 .no, .int .i64 x.2.2]]) : Res)) p0 p1 p2 p3 p4 (fun v => K (.exit 0) ⟨21, Tr.of (nthD .undef [.ref 21 0, .undef, .undef, .list (.pair (.int .i64) (.int .i64)) v.1 (.own false false), .undef, .int .i64 p1, .int .i64 v.2.1]) 5, Tr.of (nthD [] [[], [], [], [], [], [], [], [], [], [], [], [], [], [], [], [], [], [], [], [], [], [.list (.int .u8) v.2.2.1 .no, .int .i64 v.2.2.2]]) 5⟩)) : L87_0_m (L87_0 k (fun x => κ ((.list (.pair (.int .i64) (.int .i64)) x.1 (.own false false), [[.list (.int .u8) x.2.1 .no, .int .i64 x.2.2]]) : Res))) ((ev Try.prog cfg k).loop 87 1 κ) = (ev Try.prog cfg k).loop 87 1 κ := by
  funext p σ K
  unfold L87_0_m
  split
  · rename_i hp
    split
    · rename_i hs
      have e : mkSt 21 L87_0_s L87_0_b σ = ⟨21, Tr.of (nthD .undef [.ref 21 0, .undef, .undef, .list (.pair (.int .i64) (.int .i64)) (listOf (.pair (.int .i64) (.int .i64)) (Tr.val .undef (Tr.lft (Tr.lft σ.slots)))) (.own false false), .undef, .int .i64 (intOf (Tr.val .undef (Tr.rgt (Tr.lft σ.slots)))), .int .i64 (intOf (Tr.val .undef (Tr.rgt (Tr.rgt σ.slots))))]) 5, Tr.of (nthD [] [[], [], [], [], [], [], [], [], [], [], [], [], [], [], [], [], [], [], [], [], [], [.list (.int .u8) (listOf (.int .u8) (nth (Tr.val [] (Tr.lft (Tr.rgt (Tr.rgt (Tr.lft σ.boxes))))) 0)) .no, .int .i64 (intOf (nth (Tr.val [] (Tr.lft (Tr.rgt (Tr.rgt (Tr.lft σ.boxes))))) 1))]]) 5⟩ := by kernel_rfl
      rw [pathEq_eq hp]
      exact (h (listOf (.pair (.int .i64) (.int .i64)) (Tr.val .undef (Tr.lft (Tr.lft σ.slots)))) (intOf (Tr.val .undef (Tr.rgt (Tr.lft σ.slots)))) (intOf (Tr.val .undef (Tr.rgt (Tr.rgt σ.slots)))) (listOf (.int .u8) (nth (Tr.val [] (Tr.lft (Tr.rgt (Tr.rgt (Tr.lft σ.boxes))))) 0)) (intOf (nth (Tr.val [] (Tr.lft (Tr.rgt (Tr.rgt (Tr.lft σ.boxes))))) 1)) K).symm.trans (congrArg (fun s => (ev Try.prog cfg k).loop 87 1 κ [true, true, false, true, false] s K) (e.symm.trans (okSt_eq hs).symm))
    · rfl
  · rfl
theorem L87_0_k (gF23 : tF23) (gL87_0 : tL87_0) (cf : CallF) (lf : LoopF) (κ : Res → Option Res) (p0 : (List (Int × Int))) (p1 : Int) (p2 : Int) (p3 : (List Int)) (p4 : Int) (K : Cont) : evLp Try.prog cfg (F23_m gF23 cf) (L87_0_m gL87_0 lf) 87 1 κ [true, true, false, true, false] ⟨21, Tr.of (nthD .undef [.ref 21 0, .undef, .undef, .list (.pair (.int .i64) (.int .i64)) p0 (.own false false), .undef, .int .i64 p1, .int .i64 p2]) 5, Tr.of (nthD [] [[], [], [], [], [], [], [], [], [], [], [], [], [], [], [], [], [], [], [], [], [], [.list (.int .u8) p3 .no, .int .i64 p4]]) 5⟩ K = L87_0_B gF23 gL87_0 (fun x => κ ((.list (.pair (.int .i64) (.int .i64)) x.1 (.own false false), [[.list (.int .u8) x.2.1 .no, .int .i64 x.2.2]]) : Res)) p0 p1 p2 p3 p4 (fun v => K (.exit 0) ⟨21, Tr.of (nthD .undef [.ref 21 0, .undef, .undef, .list (.pair (.int .i64) (.int .i64)) v.1 (.own false false), .undef, .int .i64 p1, .int .i64 v.2.1]) 5, Tr.of (nthD [] [[], [], [], [], [], [], [], [], [], [], [], [], [], [], [], [], [], [], [], [], [], [.list (.int .u8) v.2.2.1 .no, .int .i64 v.2.2.2]]) 5⟩) := by
  kernel_rfl
theorem L87_0_ev : ∀ (k : Nat) (κ : Res → Option Res) (p0 : (List (Int × Int))) (p1 : Int) (p2 : Int) (p3 : (List Int)) (p4 : Int) (K : Cont), (ev Try.prog cfg k).loop 87 1 κ [true, true, false, true, false] ⟨21, Tr.of (nthD .undef [.ref 21 0, .undef, .undef, .list (.pair (.int .i64) (.int .i64)) p0 (.own false false), .undef, .int .i64 p1, .int .i64 p2]) 5, Tr.of (nthD [] [[], [], [], [], [], [], [], [], [], [], [], [], [], [], [], [], [], [], [], [], [], [.list (.int .u8) p3 .no, .int .i64 p4]]) 5⟩ K = L87_0 k (fun x => κ ((.list (.pair (.int .i64) (.int .i64)) x.1 (.own false false), [[.list (.int .u8) x.2.1 .no, .int .i64 x.2.2]]) : Res)) p0 p1 p2 p3 p4 (fun v => K (.exit 0) ⟨21, Tr.of (nthD .undef [.ref 21 0, .undef, .undef, .list (.pair (.int .i64) (.int .i64)) v.1 (.own false false), .undef, .int .i64 p1, .int .i64 v.2.1]) 5, Tr.of (nthD [] [[], [], [], [], [], [], [], [], [], [], [], [], [], [], [], [], [], [], [], [], [], [.list (.int .u8) v.2.2.1 .no, .int .i64 v.2.2.2]]) 5⟩) := by
  intro k κ
  induction k with
  | zero => intro p0 p1 p2 p3 p4 K; rfl
  | succ k ih =>
    intro p0 p1 p2 p3 p4 K
    rw [ev_loop, ← F23_d k (F23_ev k), ← L87_0_d k κ ih]
    exact L87_0_k _ _ _ _ κ p0 p1 p2 p3 p4 K
def F87_B (gF82v1 : tF82v1) (gF23 : tF23) (gF26 : tF26) (gL87_0 : tL87_0) (b0_0 : (List Int)) (b0_1 : Int) (κ : (List (Int × Int)) × (List Int) × Int → Option Res) : Option Res :=
  chk1 (gF82v1 (2 : Int) b0_0 b0_1 fun x1 =>
   chk1 (gL87_0 ([] : List (Int × Int)) x1.1 (0 : Int) x1.2.1 x1.2.2 fun v4 =>
    chk1 (gF26 v4.2.2.1 v4.2.2.2 fun x5 =>
     chk2 (if (x5.1 != (0 : Int)) = true then
       (κ (([] : List (Int × Int)), (x5.2.1, x5.2.2)))
      else
       (κ (v4.1, (x5.2.1, x5.2.2)))))))
/-- (*lamplighter/codec.Reader).Pairs -/
def F87 : Nat → (List Int) → Int → ((List (Int × Int)) × (List Int) × Int → Option Res) → Option Res
  | 0, _, _, _ => none
  | k + 1, b0_0, b0_1, κ => F87_B (F82v1 k) (F23 k) (F26 k) (L87_0 k κ) b0_0 b0_1 κ
def F87_s : List SC := [.one (.ref 0 0)]
def F87_b : List (List SC) := [[.one (.list (.int .u8) .no), .one (.int .i64)]]
def F87_m (g : (List Int) → Int → ((List (Int × Int)) × (List Int) × Int → Option Res) → Option Res) (cf : CallF) : CallF := fun f args lent κ => match Nat.beq f 87 with
  | true => match okC F87_s args && okB F87_b lent with
    | true => g (listOf (.int .u8) (nth (nthB lent 0) 0)) (intOf (nth (nthB lent 0) 1)) (fun x => κ ((.list (.pair (.int .i64) (.int .i64)) x.1 (.own false false), [[.list (.int .u8) x.2.1 .no, .int .i64 x.2.2]]) : Res))
    | false => cf f args lent κ
  | false => cf f args lent κ
theorem F87_d (k : Nat) (h : ∀ (b0_0 : (List Int)) (b0_1 : Int) (κ : Res → Option Res), (ev Try.prog cfg k).call 87 [.ref 0 0] [[.list (.int .u8) b0_0 .no, .int .i64 b0_1]] κ = F87 k b0_0 b0_1 (fun x => κ ((.list (.pair (.int .i64) (.int .i64)) x.1 (.own false false), [[.list (.int .u8) x.2.1 .no, .int .i64 x.2.2]]) : Res))) : F87_m (F87 k) (ev Try.prog cfg k).call = (ev Try.prog cfg k).call := by
  funext f args lent κ
  unfold F87_m
  split
  · rename_i hp
    split
    · rename_i hs
      rw [Bool.and_eq_true] at hs
      have e : mkC F87_s 0 args = [.ref 0 0] := by kernel_rfl
      have e' : mkB F87_b 0 lent = [[.list (.int .u8) (listOf (.int .u8) (nth (nthB lent 0) 0)) .no, .int .i64 (intOf (nth (nthB lent 0) 1))]] := by kernel_rfl
      obtain rfl := Nat.eq_of_beq_eq_true hp
      exact (h (listOf (.int .u8) (nth (nthB lent 0) 0)) (intOf (nth (nthB lent 0) 1)) κ).symm.trans (cong2 (fun a l => (ev Try.prog cfg k).call 87 a l κ) (e.symm.trans (okC_eq hs.1).symm) (e'.symm.trans (okB_eq hs.2).symm))
    · rfl
  · rfl
theorem F87_k (gF82v1 : tF82v1) (gF23 : tF23) (gF26 : tF26) (gL87_0 : tL87_0) (cf : CallF) (lf : LoopF) (b0_0 : (List Int)) (b0_1 : Int) (κ : Res → Option Res) : evFn Try.prog cfg (F82v1_m gF82v1 (F23_m gF23 (F26_m gF26 cf))) (L87_0_m gL87_0 lf) 87 [.ref 0 0] [[.list (.int .u8) b0_0 .no, .int .i64 b0_1]] κ = F87_B gF82v1 gF23 gF26 gL87_0 b0_0 b0_1 (fun x => κ ((.list (.pair (.int .i64) (.int .i64)) x.1 (.own false false), [[.list (.int .u8) x.2.1 .no, .int .i64 x.2.2]]) : Res)) := by
  kernel_rfl
theorem F87_ev : ∀ (k : Nat) (b0_0 : (List Int)) (b0_1 : Int) (κ : Res → Option Res), (ev Try.prog cfg k).call 87 [.ref 0 0] [[.list (.int .u8) b0_0 .no, .int .i64 b0_1]] κ = F87 k b0_0 b0_1 (fun x => κ ((.list (.pair (.int .i64) (.int .i64)) x.1 (.own false false), [[.list (.int .u8) x.2.1 .no, .int .i64 x.2.2]]) : Res)) := by
  intro k
  induction k with
  | zero => intros; rfl
  | succ k ih =>
    intro b0_0 b0_1 κ
    refine (ev_call' Try.prog cfg k 87 1 _ _ κ (by rfl)).trans ?_
    rw [← F82v1_d k (F82v1_ev k), ← F23_d k (F23_ev k), ← F26_d k (F26_ev k), ← L87_0_d k κ (L87_0_ev k κ)]
    exact F87_k _ _ _ _ _ _ b0_0 b0_1 κ
def F35_B (gF22 : tF22) (gF24 : tF24) (gF23 : tF23) (gF87 : tF87) (gF26 : tF26) (b0_0 : (List Int)) (b0_1 : Int) (κ : T11 × (List Int) × Int → Option Res) : Option Res :=
  chk2 (gF22 b0_0 b0_1 fun x1 =>
   chk4 (gF24 x1.2.1 x1.2.2 fun x2 =>
    chk2 (gF23 x2.2.1 x2.2.2 fun x3 =>
     chk2 (gF24 x3.2.1 x3.2.2 fun x4 =>
      chk2 (gF23 x4.2.1 x4.2.2 fun x5 =>
       chk2 (gF23 x5.2.1 x5.2.2 fun x6 =>
        chk2 (gF87 x6.2.1 x6.2.2 fun x7 =>
         chk8 (chk5 (gF26 x7.2.1 x7.2.2 fun x8 =>
           chk2 (if (x8.1 != (0 : Int)) = true then
             (chk3 (κ (((0 : Int), ((⟨#[]⟩ : ByteArray), ((0 : Int), ((⟨#[]⟩ : ByteArray), ((0 : Int), ((0 : Int), ([] : List (Int × Int)))))))), (x8.2.1, x8.2.2))))
            else
             (chk2 (κ (((IntKind.wrap .i64 ((bits .and .u64 x1.1 (2147483647 : Int)))), (x2.1, (x3.1, (x4.1, (x5.1, (x6.1, x7.1)))))), (x8.2.1, x8.2.2))))))))))))))
/-- (*lamplighter/codec.Reader).Out -/
def F35 : Nat → (List Int) → Int → (T11 × (List Int) × Int → Option Res) → Option Res
  | 0, _, _, _ => none
  | k + 1, b0_0, b0_1, κ => F35_B (F22 k) (F24 k) (F23 k) (F87 k) (F26 k) b0_0 b0_1 κ
def F35_s : List SC := [.one (.ref 0 0)]
def F35_b : List (List SC) := [[.one (.list (.int .u8) (.own false false)), .one (.int .i64)]]
def F35_m (g : (List Int) → Int → (T11 × (List Int) × Int → Option Res) → Option Res) (cf : CallF) : CallF := fun f args lent κ => match Nat.beq f 35 with
  | true => match okC F35_s args && okB F35_b lent with
    | true => g (listOf (.int .u8) (nth (nthB lent 0) 0)) (intOf (nth (nthB lent 0) 1)) (fun x => κ ((.agg [.int .i64 x.1.1, .str x.1.2.1, .int .i64 x.1.2.2.1, .str x.1.2.2.2.1, .int .i64 x.1.2.2.2.2.1, .int .i64 x.1.2.2.2.2.2.1, .list (.pair (.int .i64) (.int .i64)) x.1.2.2.2.2.2.2 (.own false false)], [[.list (.int .u8) x.2.1 .no, .int .i64 x.2.2]]) : Res))
    | false => cf f args lent κ
  | false => cf f args lent κ
theorem F35_d (k : Nat) (h : ∀ (b0_0 : (List Int)) (b0_1 : Int) (κ : Res → Option Res), (ev Try.prog cfg k).call 35 [.ref 0 0] [[.list (.int .u8) b0_0 (.own false false), .int .i64 b0_1]] κ = F35 k b0_0 b0_1 (fun x => κ ((.agg [.int .i64 x.1.1, .str x.1.2.1, .int .i64 x.1.2.2.1, .str x.1.2.2.2.1, .int .i64 x.1.2.2.2.2.1, .int .i64 x.1.2.2.2.2.2.1, .list (.pair (.int .i64) (.int .i64)) x.1.2.2.2.2.2.2 (.own false false)], [[.list (.int .u8) x.2.1 .no, .int .i64 x.2.2]]) : Res))) : F35_m (F35 k) (ev Try.prog cfg k).call = (ev Try.prog cfg k).call := by
  funext f args lent κ
  unfold F35_m
  split
  · rename_i hp
    split
    · rename_i hs
      rw [Bool.and_eq_true] at hs
      have e : mkC F35_s 0 args = [.ref 0 0] := by kernel_rfl
      have e' : mkB F35_b 0 lent = [[.list (.int .u8) (listOf (.int .u8) (nth (nthB lent 0) 0)) (.own false false), .int .i64 (intOf (nth (nthB lent 0) 1))]] := by kernel_rfl
      obtain rfl := Nat.eq_of_beq_eq_true hp
      exact (h (listOf (.int .u8) (nth (nthB lent 0) 0)) (intOf (nth (nthB lent 0) 1)) κ).symm.trans (cong2 (fun a l => (ev Try.prog cfg k).call 35 a l κ) (e.symm.trans (okC_eq hs.1).symm) (e'.symm.trans (okB_eq hs.2).symm))
    · rfl
  · rfl
theorem F35_k (gF22 : tF22) (gF24 : tF24) (gF23 : tF23) (gF87 : tF87) (gF26 : tF26) (cf : CallF) (lf : LoopF) (b0_0 : (List Int)) (b0_1 : Int) (κ : Res → Option Res) : evFn Try.prog cfg (F22_m gF22 (F24_m gF24 (F23_m gF23 (F87_m gF87 (F26_m gF26 cf))))) lf 35 [.ref 0 0] [[.list (.int .u8) b0_0 (.own false false), .int .i64 b0_1]] κ = F35_B gF22 gF24 gF23 gF87 gF26 b0_0 b0_1 (fun x => κ ((.agg [.int .i64 x.1.1, .str x.1.2.1, .int .i64 x.1.2.2.1, .str x.1.2.2.2.1, .int .i64 x.1.2.2.2.2.1, .int .i64 x.1.2.2.2.2.2.1, .list (.pair (.int .i64) (.int .i64)) x.1.2.2.2.2.2.2 (.own false false)], [[.list (.int .u8) x.2.1 .no, .int .i64 x.2.2]]) : Res)) := by
  kernel_rfl
theorem F35_ev : ∀ (k : Nat) (b0_0 : (List Int)) (b0_1 : Int) (κ : Res → Option Res), (ev Try.prog cfg k).call 35 [.ref 0 0] [[.list (.int .u8) b0_0 (.own false false), .int .i64 b0_1]] κ = F35 k b0_0 b0_1 (fun x => κ ((.agg [.int .i64 x.1.1, .str x.1.2.1, .int .i64 x.1.2.2.1, .str x.1.2.2.2.1, .int .i64 x.1.2.2.2.2.1, .int .i64 x.1.2.2.2.2.2.1, .list (.pair (.int .i64) (.int .i64)) x.1.2.2.2.2.2.2 (.own false false)], [[.list (.int .u8) x.2.1 .no, .int .i64 x.2.2]]) : Res)) := by
  intro k
  induction k with
  | zero => intros; rfl
  | succ k ih =>
    intro b0_0 b0_1 κ
    refine (ev_call' Try.prog cfg k 35 1 _ _ κ (by rfl)).trans ?_
    rw [← F22_d k (F22_ev k), ← F24_d k (F24_ev k), ← F23_d k (F23_ev k), ← F87_d k (F87_ev k), ← F26_d k (F26_ev k)]
    exact F35_k _ _ _ _ _ _ _ b0_0 b0_1 κ
def F27_B (gF13 : tF13) (gF28 : tF28) (gF21 : tF21) (gF22 : tF22) (gF29v2 : tF29v2) (gF26 : tF26)  (κ : Bool → Option Res) : Option Res :=
  chk3 (gF13 (300 : Int) ([] : List Int) fun x1 =>
   chk2 (gF28 x1 fun x2 =>
    chk2 (gF21 x2.1 fun x3 =>
     chk2 (gF28 x2.2 fun x4 =>
      chk3 (if ((strOf x4.1).toList == (⟨#[172, 2]⟩ : ByteArray).toList) = true then
        (chk1 (gF22 x3.1 x3.2 fun x5 =>
         chk2 (if (x5.1 == (300 : Int)) = true then
           (chk1 (gF29v2 x5.2.1 x5.2.2 fun x6 =>
            chk2 (if (x6.1 == (0 : Int)) = true then
              (chk1 (gF26 x6.2.1 x6.2.2 fun x7 =>
               chk2 (κ (x7.1 == (0 : Int)))))
             else
              (κ false))))
          else
           (if false = true then
            (none)
           else
            (κ false)))))
       else
        (if false = true then
         (none)
        else
         (if false = true then
          (none)
         else
          (κ false))))))))
/-- lamplighter/lamplighterlaw53.awake -/
def F27 : Nat →  (Bool → Option Res) → Option Res
  | 0, _ => none
  | k + 1, κ => F27_B (F13 k) (F28 k) (F21 k) (F22 k) (F29v2 k) (F26 k)  κ
def F27_s : List SC := []
def F27_b : List (List SC) := []
def F27_m (g : (Bool → Option Res) → Option Res) (cf : CallF) : CallF := fun f args lent κ => match Nat.beq f 27 with
  | true => match okC F27_s args && okB F27_b lent with
    | true => g  (fun x => κ ((.bool x, []) : Res))
    | false => cf f args lent κ
  | false => cf f args lent κ
theorem F27_d (k : Nat) (h : ∀  (κ : Res → Option Res), (ev Try.prog cfg k).call 27 [] [] κ = F27 k  (fun x => κ ((.bool x, []) : Res))) : F27_m (F27 k) (ev Try.prog cfg k).call = (ev Try.prog cfg k).call := by
  funext f args lent κ
  unfold F27_m
  split
  · rename_i hp
    split
    · rename_i hs
      rw [Bool.and_eq_true] at hs
      have e : mkC F27_s 0 args = [] := by kernel_rfl
      have e' : mkB F27_b 0 lent = [] := by kernel_rfl
      obtain rfl := Nat.eq_of_beq_eq_true hp
      exact (h  κ).symm.trans (cong2 (fun a l => (ev Try.prog cfg k).call 27 a l κ) (e.symm.trans (okC_eq hs.1).symm) (e'.symm.trans (okB_eq hs.2).symm))
    · rfl
  · rfl
theorem F27_k (gF13 : tF13) (gF28 : tF28) (gF21 : tF21) (gF22 : tF22) (gF29v2 : tF29v2) (gF26 : tF26) (cf : CallF) (lf : LoopF)  (κ : Res → Option Res) : evFn Try.prog cfg (F13_m gF13 (F28_m gF28 (F21_m gF21 (F22_m gF22 (F29v2_m gF29v2 (F26_m gF26 cf)))))) lf 27 [] [] κ = F27_B gF13 gF28 gF21 gF22 gF29v2 gF26  (fun x => κ ((.bool x, []) : Res)) := by
  kernel_rfl
theorem F27_ev : ∀ (k : Nat)  (κ : Res → Option Res), (ev Try.prog cfg k).call 27 [] [] κ = F27 k  (fun x => κ ((.bool x, []) : Res)) := by
  intro k
  induction k with
  | zero => intros; rfl
  | succ k ih =>
    intro  κ
    refine (ev_call' Try.prog cfg k 27 0 _ _ κ (by rfl)).trans ?_
    rw [← F13_d k (F13_ev k), ← F28_d k (F28_ev k), ← F21_d k (F21_ev k), ← F22_d k (F22_ev k), ← F29v2_d k (F29v2_ev k), ← F26_d k (F26_ev k)]
    exact F27_k _ _ _ _ _ _ _ _  κ
def L88_0_B (gL88_0 : tL88_0) (κ : Bool → Option Res) (p0 : Int) (p1 : ByteArray) (p2 : ByteArray) (p3 : Int) (p4 : Int) (p5 : T4) (p6 : ByteArray) (p7 : ByteArray) (p8 : Int) (p9 : Int) (p10 : T4) (K : Int → Option Res) : Option Res :=
  chk2 (if decide (p0 < (p5.length : Int)) = true then
    (if (true && (decide ((0 : Int) ≤ p0) && decide (p0 < (p5.length : Int)))) = true then
     (if (true && (decide ((0 : Int) ≤ p0) && decide (p0 < (p10.length : Int)))) = true then
      (chk1 (if (!((((p5.getD p0.toNat ((0 : Int), ((0 : Int), ((⟨#[]⟩ : ByteArray), false)))).1) == ((p10.getD p0.toNat ((0 : Int), ((0 : Int), ((⟨#[]⟩ : ByteArray), false)))).1)) && (((((p5.getD p0.toNat ((0 : Int), ((0 : Int), ((⟨#[]⟩ : ByteArray), false)))).2).1) == (((p10.getD p0.toNat ((0 : Int), ((0 : Int), ((⟨#[]⟩ : ByteArray), false)))).2).1)) && (((((p5.getD p0.toNat ((0 : Int), ((0 : Int), ((⟨#[]⟩ : ByteArray), false)))).2).2).1 == (((p10.getD p0.toNat ((0 : Int), ((0 : Int), ((⟨#[]⟩ : ByteArray), false)))).2).2).1) && ((((p5.getD p0.toNat ((0 : Int), ((0 : Int), ((⟨#[]⟩ : ByteArray), false)))).2).2).2 == (((p10.getD p0.toNat ((0 : Int), ((0 : Int), ((⟨#[]⟩ : ByteArray), false)))).2).2).2))))) = true then
        (κ false)
       else
        (chk1 (gL88_0 (IntKind.wrap .i64 (p0 + (1 : Int))) p1 p2 p3 p4 p5 p6 p7 p8 p9 p10 K))))
     else
      (none))
    else
     (none))
   else
    (K p0))
def L88_0 : Nat → (Bool → Option Res) → Int → ByteArray → ByteArray → Int → Int → T4 → ByteArray → ByteArray → Int → Int → T4 → (Int → Option Res) → Option Res
  | 0, _, _, _, _, _, _, _, _, _, _, _, _, _ => none
  | k + 1, κ, p0, p1, p2, p3, p4, p5, p6, p7, p8, p9, p10, K => L88_0_B (fun p0 p1 p2 p3 p4 p5 p6 p7 p8 p9 p10 K => L88_0 k κ p0 p1 p2 p3 p4 p5 p6 p7 p8 p9 p10 K) κ p0 p1 p2 p3 p4 p5 p6 p7 p8 p9 p10 K
def L88_0_s : Tr SC := Tr.of (nthD (.one .undef) [.one .undef, .one .undef, .one (.ref 2 0), .one (.ref 3 0), .one .undef, .one (.int .i64)]) 6
def L88_0_b : Tr (List SC) := Tr.of (nthD [] [[], [], [.one .str, .one .str, .one (.int .i64), .one (.int .i64), .one (.list (.pair (.int .i64) (.pair (.int .i64) (.pair .str .bool))) .no)], [.one .str, .one .str, .one (.int .i64), .one (.int .i64), .one (.list (.pair (.int .i64) (.pair (.int .i64) (.pair .str .bool))) .no)]]) 6
def L88_0_m (g : Int → ByteArray → ByteArray → Int → Int → T4 → ByteArray → ByteArray → Int → Int → T4 → (Int → Option Res) → Option Res) (lf : LoopF) : LoopF := fun p σ K => match pathEq p [true, true, false, true, false] with
  | true => match okSt 59 L88_0_s L88_0_b σ with
    | true => g (intOf (Tr.val .undef (Tr.rgt (Tr.lft σ.slots)))) (stringOf (nth (Tr.val [] (Tr.rgt σ.boxes)) 0)) (stringOf (nth (Tr.val [] (Tr.rgt σ.boxes)) 1)) (intOf (nth (Tr.val [] (Tr.rgt σ.boxes)) 2)) (intOf (nth (Tr.val [] (Tr.rgt σ.boxes)) 3)) (listOf (.pair (.int .i64) (.pair (.int .i64) (.pair .str .bool))) (nth (Tr.val [] (Tr.rgt σ.boxes)) 4)) (stringOf (nth (Tr.val [] (Tr.lft (Tr.lft σ.boxes))) 0)) (stringOf (nth (Tr.val [] (Tr.lft (Tr.lft σ.boxes))) 1)) (intOf (nth (Tr.val [] (Tr.lft (Tr.lft σ.boxes))) 2)) (intOf (nth (Tr.val [] (Tr.lft (Tr.lft σ.boxes))) 3)) (listOf (.pair (.int .i64) (.pair (.int .i64) (.pair .str .bool))) (nth (Tr.val [] (Tr.lft (Tr.lft σ.boxes))) 4)) (fun v => K (.exit 0) ⟨59, Tr.of (nthD .undef [.undef, .undef, .ref 2 0, .ref 3 0, .undef, .int .i64 v]) 6, Tr.of (nthD [] [[], [], [.str (stringOf (nth (Tr.val [] (Tr.rgt σ.boxes)) 0)), .str (stringOf (nth (Tr.val [] (Tr.rgt σ.boxes)) 1)), .int .i64 (intOf (nth (Tr.val [] (Tr.rgt σ.boxes)) 2)), .int .i64 (intOf (nth (Tr.val [] (Tr.rgt σ.boxes)) 3)), .list (.pair (.int .i64) (.pair (.int .i64) (.pair .str .bool))) (listOf (.pair (.int .i64) (.pair (.int .i64) (.pair .str .bool))) (nth (Tr.val [] (Tr.rgt σ.boxes)) 4)) .no], [.str (stringOf (nth (Tr.val [] (Tr.lft (Tr.lft σ.boxes))) 0)), .str (stringOf (nth (Tr.val [] (Tr.lft (Tr.lft σ.boxes))) 1)), .int .i64 (intOf (nth (Tr.val [] (Tr.lft (Tr.lft σ.boxes))) 2)), .int .i64 (intOf (nth (Tr.val [] (Tr.lft (Tr.lft σ.boxes))) 3)), .list (.pair (.int .i64) (.pair (.int .i64) (.pair .str .bool))) (listOf (.pair (.int .i64) (.pair (.int .i64) (.pair .str .bool))) (nth (Tr.val [] (Tr.lft (Tr.lft σ.boxes))) 4)) .no]]) 6⟩)
    | false => lf p σ K
  | false => lf p σ K
theorem L88_0_d (k : Nat) (κ : Res → Option Res) (h : ∀ (p0 : Int) (p1 : ByteArray) (p2 : ByteArray) (p3 : Int) (p4 : Int) (p5 : T4) (p6 : ByteArray) (p7 : ByteArray) (p8 : Int) (p9 : Int) (p10 : T4) (K : Cont), (ev Try.prog cfg k).loop 88 0 κ [true, true, false, true, false] ⟨59, Tr.of (nthD .undef [.undef, .undef, .ref 2 0, .ref 3 0, .undef, .int .i64 p0]) 6, Tr.of (nthD [] [[], [], [.str p1, .str p2, .int .i64 p3, .int .i64 p4, .list (.pair (.int .i64) (.pair (.int .i64) (.pair .str .bool))) p5 .no], [.str p6, .str p7, .int .i64 p8, .int .i64 p9, .list (.pair (.int .i64) (.pair (.int .i64) (.pair .str .bool))) p10 .no]]) 6⟩ K = L88_0 k (fun x => κ ((.bool x, []) : Res)) p0 p1 p2 p3 p4 p5 p6 p7 p8 p9 p10 (fun v => K (.exit 0) ⟨59, Tr.of (nthD .undef [.undef, .undef, .ref 2 0, .ref 3 0, .undef, .int .i64 v]) 6, Tr.of (nthD [] [[], [], [.str p1, .str p2, .int .i64 p3, .int .i64 p4, .list (.pair (.int .i64) (.pair (.int .i64) (.pair .str .bool))) p5 .no], [.str p6, .str p7, .int .i64 p8, .int .i64 p9, .list (.pair (.int .i64) (.pair (.int .i64) (.pair .str .bool))) p10 .no]]) 6⟩)) : L88_0_m (L88_0 k (fun x => κ ((.bool x, []) : Res))) ((ev Try.prog cfg k).loop 88 0 κ) = (ev Try.prog cfg k).loop 88 0 κ := by
  funext p σ K
  unfold L88_0_m
  split
  · rename_i hp
    split
    · rename_i hs
      have e : mkSt 59 L88_0_s L88_0_b σ = ⟨59, Tr.of (nthD .undef [.undef, .undef, .ref 2 0, .ref 3 0, .undef, .int .i64 (intOf (Tr.val .undef (Tr.rgt (Tr.lft σ.slots))))]) 6, Tr.of (nthD [] [[], [], [.str (stringOf (nth (Tr.val [] (Tr.rgt σ.boxes)) 0)), .str (stringOf (nth (Tr.val [] (Tr.rgt σ.boxes)) 1)), .int .i64 (intOf (nth (Tr.val [] (Tr.rgt σ.boxes)) 2)), .int .i64 (intOf (nth (Tr.val [] (Tr.rgt σ.boxes)) 3)), .list (.pair (.int .i64) (.pair (.int .i64) (.pair .str .bool))) (listOf (.pair (.int .i64) (.pair (.int .i64) (.pair .str .bool))) (nth (Tr.val [] (Tr.rgt σ.boxes)) 4)) .no], [.str (stringOf (nth (Tr.val [] (Tr.lft (Tr.lft σ.boxes))) 0)), .str (stringOf (nth (Tr.val [] (Tr.lft (Tr.lft σ.boxes))) 1)), .int .i64 (intOf (nth (Tr.val [] (Tr.lft (Tr.lft σ.boxes))) 2)), .int .i64 (intOf (nth (Tr.val [] (Tr.lft (Tr.lft σ.boxes))) 3)), .list (.pair (.int .i64) (.pair (.int .i64) (.pair .str .bool))) (listOf (.pair (.int .i64) (.pair (.int .i64) (.pair .str .bool))) (nth (Tr.val [] (Tr.lft (Tr.lft σ.boxes))) 4)) .no]]) 6⟩ := by kernel_rfl
      rw [pathEq_eq hp]
      exact (h (intOf (Tr.val .undef (Tr.rgt (Tr.lft σ.slots)))) (stringOf (nth (Tr.val [] (Tr.rgt σ.boxes)) 0)) (stringOf (nth (Tr.val [] (Tr.rgt σ.boxes)) 1)) (intOf (nth (Tr.val [] (Tr.rgt σ.boxes)) 2)) (intOf (nth (Tr.val [] (Tr.rgt σ.boxes)) 3)) (listOf (.pair (.int .i64) (.pair (.int .i64) (.pair .str .bool))) (nth (Tr.val [] (Tr.rgt σ.boxes)) 4)) (stringOf (nth (Tr.val [] (Tr.lft (Tr.lft σ.boxes))) 0)) (stringOf (nth (Tr.val [] (Tr.lft (Tr.lft σ.boxes))) 1)) (intOf (nth (Tr.val [] (Tr.lft (Tr.lft σ.boxes))) 2)) (intOf (nth (Tr.val [] (Tr.lft (Tr.lft σ.boxes))) 3)) (listOf (.pair (.int .i64) (.pair (.int .i64) (.pair .str .bool))) (nth (Tr.val [] (Tr.lft (Tr.lft σ.boxes))) 4)) K).symm.trans (congrArg (fun s => (ev Try.prog cfg k).loop 88 0 κ [true, true, false, true, false] s K) (e.symm.trans (okSt_eq hs).symm))
    · rfl
  · rfl
theorem L88_0_k (gL88_0 : tL88_0) (cf : CallF) (lf : LoopF) (κ : Res → Option Res) (p0 : Int) (p1 : ByteArray) (p2 : ByteArray) (p3 : Int) (p4 : Int) (p5 : T4) (p6 : ByteArray) (p7 : ByteArray) (p8 : Int) (p9 : Int) (p10 : T4) (K : Cont) : evLp Try.prog cfg cf (L88_0_m gL88_0 lf) 88 0 κ [true, true, false, true, false] ⟨59, Tr.of (nthD .undef [.undef, .undef, .ref 2 0, .ref 3 0, .undef, .int .i64 p0]) 6, Tr.of (nthD [] [[], [], [.str p1, .str p2, .int .i64 p3, .int .i64 p4, .list (.pair (.int .i64) (.pair (.int .i64) (.pair .str .bool))) p5 .no], [.str p6, .str p7, .int .i64 p8, .int .i64 p9, .list (.pair (.int .i64) (.pair (.int .i64) (.pair .str .bool))) p10 .no]]) 6⟩ K = L88_0_B gL88_0 (fun x => κ ((.bool x, []) : Res)) p0 p1 p2 p3 p4 p5 p6 p7 p8 p9 p10 (fun v => K (.exit 0) ⟨59, Tr.of (nthD .undef [.undef, .undef, .ref 2 0, .ref 3 0, .undef, .int .i64 v]) 6, Tr.of (nthD [] [[], [], [.str p1, .str p2, .int .i64 p3, .int .i64 p4, .list (.pair (.int .i64) (.pair (.int .i64) (.pair .str .bool))) p5 .no], [.str p6, .str p7, .int .i64 p8, .int .i64 p9, .list (.pair (.int .i64) (.pair (.int .i64) (.pair .str .bool))) p10 .no]]) 6⟩) := by
  kernel_rfl
theorem L88_0_ev : ∀ (k : Nat) (κ : Res → Option Res) (p0 : Int) (p1 : ByteArray) (p2 : ByteArray) (p3 : Int) (p4 : Int) (p5 : T4) (p6 : ByteArray) (p7 : ByteArray) (p8 : Int) (p9 : Int) (p10 : T4) (K : Cont), (ev Try.prog cfg k).loop 88 0 κ [true, true, false, true, false] ⟨59, Tr.of (nthD .undef [.undef, .undef, .ref 2 0, .ref 3 0, .undef, .int .i64 p0]) 6, Tr.of (nthD [] [[], [], [.str p1, .str p2, .int .i64 p3, .int .i64 p4, .list (.pair (.int .i64) (.pair (.int .i64) (.pair .str .bool))) p5 .no], [.str p6, .str p7, .int .i64 p8, .int .i64 p9, .list (.pair (.int .i64) (.pair (.int .i64) (.pair .str .bool))) p10 .no]]) 6⟩ K = L88_0 k (fun x => κ ((.bool x, []) : Res)) p0 p1 p2 p3 p4 p5 p6 p7 p8 p9 p10 (fun v => K (.exit 0) ⟨59, Tr.of (nthD .undef [.undef, .undef, .ref 2 0, .ref 3 0, .undef, .int .i64 v]) 6, Tr.of (nthD [] [[], [], [.str p1, .str p2, .int .i64 p3, .int .i64 p4, .list (.pair (.int .i64) (.pair (.int .i64) (.pair .str .bool))) p5 .no], [.str p6, .str p7, .int .i64 p8, .int .i64 p9, .list (.pair (.int .i64) (.pair (.int .i64) (.pair .str .bool))) p10 .no]]) 6⟩) := by
  intro k κ
  induction k with
  | zero => intro p0 p1 p2 p3 p4 p5 p6 p7 p8 p9 p10 K; rfl
  | succ k ih =>
    intro p0 p1 p2 p3 p4 p5 p6 p7 p8 p9 p10 K
    rw [ev_loop, ← L88_0_d k κ ih]
    exact L88_0_k _ _ _ κ p0 p1 p2 p3 p4 p5 p6 p7 p8 p9 p10 K
def F88_B (gL88_0 : tL88_0) (a0 : T13) (a1 : T13) (κ : Bool → Option Res) : Option Res :=
  chk3 (if (!(a0.1.toList == a1.1.toList)) = true then
    (chk4 (κ false))
   else
    (chk1 (if (!(a0.2.1.toList == a1.2.1.toList)) = true then
      (chk3 (κ false))
     else
      (chk1 (if (a0.2.2.1 != a1.2.2.1) = true then
        (chk2 (κ false))
       else
        (chk1 (if (a0.2.2.2.1 != a1.2.2.2.1) = true then
          (chk1 (κ false))
         else
          (chk3 (if ((a0.2.2.2.2.length : Int) != (a1.2.2.2.2.length : Int)) = true then
            (κ false)
           else
            (gL88_0 (0 : Int) a0.1 a0.2.1 a0.2.2.1 a0.2.2.2.1 a0.2.2.2.2 a1.1 a1.2.1 a1.2.2.1 a1.2.2.2.1 a1.2.2.2.2 fun v1 =>
            κ true))))))))))
/-- lamplighter/lamplighterref03.Same -/
def F88 : Nat → T13 → T13 → (Bool → Option Res) → Option Res
  | 0, _, _, _ => none
  | k + 1, a0, a1, κ => F88_B (L88_0 k κ) a0 a1 κ
def F88_s : List SC := [.agg [.str, .str, .int .i64, .int .i64, .list (.pair (.int .i64) (.pair (.int .i64) (.pair .str .bool))) .no], .agg [.str, .str, .int .i64, .int .i64, .list (.pair (.int .i64) (.pair (.int .i64) (.pair .str .bool))) .no]]
def F88_b : List (List SC) := []
def F88_m (g : T13 → T13 → (Bool → Option Res) → Option Res) (cf : CallF) : CallF := fun f args lent κ => match Nat.beq f 88 with
  | true => match okC F88_s args && okB F88_b lent with
    | true => g ((stringOf (nth (aggOf (nth args 0)) 0)), ((stringOf (nth (aggOf (nth args 0)) 1)), ((intOf (nth (aggOf (nth args 0)) 2)), ((intOf (nth (aggOf (nth args 0)) 3)), (listOf (.pair (.int .i64) (.pair (.int .i64) (.pair .str .bool))) (nth (aggOf (nth args 0)) 4)))))) ((stringOf (nth (aggOf (nth args 1)) 0)), ((stringOf (nth (aggOf (nth args 1)) 1)), ((intOf (nth (aggOf (nth args 1)) 2)), ((intOf (nth (aggOf (nth args 1)) 3)), (listOf (.pair (.int .i64) (.pair (.int .i64) (.pair .str .bool))) (nth (aggOf (nth args 1)) 4)))))) (fun x => κ ((.bool x, []) : Res))
    | false => cf f args lent κ
  | false => cf f args lent κ
theorem F88_d (k : Nat) (h : ∀ (a0 : T13) (a1 : T13) (κ : Res → Option Res), (ev Try.prog cfg k).call 88 [.agg [.str a0.1, .str a0.2.1, .int .i64 a0.2.2.1, .int .i64 a0.2.2.2.1, .list (.pair (.int .i64) (.pair (.int .i64) (.pair .str .bool))) a0.2.2.2.2 .no], .agg [.str a1.1, .str a1.2.1, .int .i64 a1.2.2.1, .int .i64 a1.2.2.2.1, .list (.pair (.int .i64) (.pair (.int .i64) (.pair .str .bool))) a1.2.2.2.2 .no]] [] κ = F88 k a0 a1 (fun x => κ ((.bool x, []) : Res))) : F88_m (F88 k) (ev Try.prog cfg k).call = (ev Try.prog cfg k).call := by
  funext f args lent κ
  unfold F88_m
  split
  · rename_i hp
    split
    · rename_i hs
      rw [Bool.and_eq_true] at hs
      have e : mkC F88_s 0 args = [.agg [.str (stringOf (nth (aggOf (nth args 0)) 0)), .str (stringOf (nth (aggOf (nth args 0)) 1)), .int .i64 (intOf (nth (aggOf (nth args 0)) 2)), .int .i64 (intOf (nth (aggOf (nth args 0)) 3)), .list (.pair (.int .i64) (.pair (.int .i64) (.pair .str .bool))) (listOf (.pair (.int .i64) (.pair (.int .i64) (.pair .str .bool))) (nth (aggOf (nth args 0)) 4)) .no], .agg [.str (stringOf (nth (aggOf (nth args 1)) 0)), .str (stringOf (nth (aggOf (nth args 1)) 1)), .int .i64 (intOf (nth (aggOf (nth args 1)) 2)), .int .i64 (intOf (nth (aggOf (nth args 1)) 3)), .list (.pair (.int .i64) (.pair (.int .i64) (.pair .str .bool))) (listOf (.pair (.int .i64) (.pair (.int .i64) (.pair .str .bool))) (nth (aggOf (nth args 1)) 4)) .no]] := by kernel_rfl
      have e' : mkB F88_b 0 lent = [] := by kernel_rfl
      obtain rfl := Nat.eq_of_beq_eq_true hp
      exact (h ((stringOf (nth (aggOf (nth args 0)) 0)), ((stringOf (nth (aggOf (nth args 0)) 1)), ((intOf (nth (aggOf (nth args 0)) 2)), ((intOf (nth (aggOf (nth args 0)) 3)), (listOf (.pair (.int .i64) (.pair (.int .i64) (.pair .str .bool))) (nth (aggOf (nth args 0)) 4)))))) ((stringOf (nth (aggOf (nth args 1)) 0)), ((stringOf (nth (aggOf (nth args 1)) 1)), ((intOf (nth (aggOf (nth args 1)) 2)), ((intOf (nth (aggOf (nth args 1)) 3)), (listOf (.pair (.int .i64) (.pair (.int .i64) (.pair .str .bool))) (nth (aggOf (nth args 1)) 4)))))) κ).symm.trans (cong2 (fun a l => (ev Try.prog cfg k).call 88 a l κ) (e.symm.trans (okC_eq hs.1).symm) (e'.symm.trans (okB_eq hs.2).symm))
    · rfl
  · rfl
theorem F88_k (gL88_0 : tL88_0) (cf : CallF) (lf : LoopF) (a0 : T13) (a1 : T13) (κ : Res → Option Res) : evFn Try.prog cfg cf (L88_0_m gL88_0 lf) 88 [.agg [.str a0.1, .str a0.2.1, .int .i64 a0.2.2.1, .int .i64 a0.2.2.2.1, .list (.pair (.int .i64) (.pair (.int .i64) (.pair .str .bool))) a0.2.2.2.2 .no], .agg [.str a1.1, .str a1.2.1, .int .i64 a1.2.2.1, .int .i64 a1.2.2.2.1, .list (.pair (.int .i64) (.pair (.int .i64) (.pair .str .bool))) a1.2.2.2.2 .no]] [] κ = F88_B gL88_0 a0 a1 (fun x => κ ((.bool x, []) : Res)) := by
  kernel_rfl
theorem F88_ev : ∀ (k : Nat) (a0 : T13) (a1 : T13) (κ : Res → Option Res), (ev Try.prog cfg k).call 88 [.agg [.str a0.1, .str a0.2.1, .int .i64 a0.2.2.1, .int .i64 a0.2.2.2.1, .list (.pair (.int .i64) (.pair (.int .i64) (.pair .str .bool))) a0.2.2.2.2 .no], .agg [.str a1.1, .str a1.2.1, .int .i64 a1.2.2.1, .int .i64 a1.2.2.2.1, .list (.pair (.int .i64) (.pair (.int .i64) (.pair .str .bool))) a1.2.2.2.2 .no]] [] κ = F88 k a0 a1 (fun x => κ ((.bool x, []) : Res)) := by
  intro k
  induction k with
  | zero => intros; rfl
  | succ k ih =>
    intro a0 a1 κ
    refine (ev_call' Try.prog cfg k 88 0 _ _ κ (by rfl)).trans ?_
    rw [← L88_0_d k κ (L88_0_ev k κ)]
    exact F88_k _ _ _ a0 a1 κ
def L36_0_B (gF88 : tF88) (gL36_0 : tL36_0) (κ : Bool → Option Res) (p0 : T14) (p1 : T14) (p2 : Int) (K : Int → Option Res) : Option Res :=
  chk2 (if decide (p2 < (p0.length : Int)) = true then
    (if (true && (decide ((0 : Int) ≤ p2) && decide (p2 < (p0.length : Int)))) = true then
     (if (true && (decide ((0 : Int) ≤ p2) && decide (p2 < (p1.length : Int)))) = true then
      (chk1 (gF88 ((p0.getD p2.toNat ((⟨#[]⟩ : ByteArray), ((⟨#[]⟩ : ByteArray), ((0 : Int), ((0 : Int), ([] : List T2)))))).1, (((p0.getD p2.toNat ((⟨#[]⟩ : ByteArray), ((⟨#[]⟩ : ByteArray), ((0 : Int), ((0 : Int), ([] : List T2)))))).2).1, ((((p0.getD p2.toNat ((⟨#[]⟩ : ByteArray), ((⟨#[]⟩ : ByteArray), ((0 : Int), ((0 : Int), ([] : List T2)))))).2).2).1, ((((p0.getD p2.toNat ((⟨#[]⟩ : ByteArray), ((⟨#[]⟩ : ByteArray), ((0 : Int), ((0 : Int), ([] : List T2)))))).2).2).2)))) ((p1.getD p2.toNat ((⟨#[]⟩ : ByteArray), ((⟨#[]⟩ : ByteArray), ((0 : Int), ((0 : Int), ([] : List T2)))))).1, (((p1.getD p2.toNat ((⟨#[]⟩ : ByteArray), ((⟨#[]⟩ : ByteArray), ((0 : Int), ((0 : Int), ([] : List T2)))))).2).1, ((((p1.getD p2.toNat ((⟨#[]⟩ : ByteArray), ((⟨#[]⟩ : ByteArray), ((0 : Int), ((0 : Int), ([] : List T2)))))).2).2).1, ((((p1.getD p2.toNat ((⟨#[]⟩ : ByteArray), ((⟨#[]⟩ : ByteArray), ((0 : Int), ((0 : Int), ([] : List T2)))))).2).2).2)))) fun x1 =>
       chk1 (if (!x1) = true then
         (κ false)
        else
         (chk1 (gL36_0 p0 p1 (IntKind.wrap .i64 (p2 + (1 : Int))) K)))))
     else
      (none))
    else
     (none))
   else
    (K p2))
def L36_0 : Nat → (Bool → Option Res) → T14 → T14 → Int → (Int → Option Res) → Option Res
  | 0, _, _, _, _, _ => none
  | k + 1, κ, p0, p1, p2, K => L36_0_B (F88 k) (fun p0 p1 p2 K => L36_0 k κ p0 p1 p2 K) κ p0 p1 p2 K
def L36_0_s : Tr SC := Tr.of (nthD (.one .undef) [.one (.list (.pair .str (.pair .str (.pair (.int .i64) (.pair (.int .i64) (.list (.pair (.int .i64) (.pair (.int .i64) (.pair .str .bool)))))))) .no), .one (.list (.pair .str (.pair .str (.pair (.int .i64) (.pair (.int .i64) (.list (.pair (.int .i64) (.pair (.int .i64) (.pair .str .bool)))))))) .no), .one .undef, .one .undef, .one .undef, .one (.int .i64)]) 5
def L36_0_b : Tr (List SC) := Tr.of (nthD [] []) 5
def L36_0_m (g : T14 → T14 → Int → (Int → Option Res) → Option Res) (lf : LoopF) : LoopF := fun p σ K => match pathEq p [true, true, false, true, false] with
  | true => match okSt 27 L36_0_s L36_0_b σ with
    | true => g (listOf (.pair .str (.pair .str (.pair (.int .i64) (.pair (.int .i64) (.list (.pair (.int .i64) (.pair (.int .i64) (.pair .str .bool)))))))) (Tr.val .undef σ.slots)) (listOf (.pair .str (.pair .str (.pair (.int .i64) (.pair (.int .i64) (.list (.pair (.int .i64) (.pair (.int .i64) (.pair .str .bool)))))))) (Tr.val .undef (Tr.lft σ.slots))) (intOf (Tr.val .undef (Tr.rgt (Tr.lft σ.slots)))) (fun v => K (.exit 0) ⟨27, Tr.of (nthD .undef [.list (.pair .str (.pair .str (.pair (.int .i64) (.pair (.int .i64) (.list (.pair (.int .i64) (.pair (.int .i64) (.pair .str .bool)))))))) (listOf (.pair .str (.pair .str (.pair (.int .i64) (.pair (.int .i64) (.list (.pair (.int .i64) (.pair (.int .i64) (.pair .str .bool)))))))) (Tr.val .undef σ.slots)) .no, .list (.pair .str (.pair .str (.pair (.int .i64) (.pair (.int .i64) (.list (.pair (.int .i64) (.pair (.int .i64) (.pair .str .bool)))))))) (listOf (.pair .str (.pair .str (.pair (.int .i64) (.pair (.int .i64) (.list (.pair (.int .i64) (.pair (.int .i64) (.pair .str .bool)))))))) (Tr.val .undef (Tr.lft σ.slots))) .no, .undef, .undef, .undef, .int .i64 v]) 5, Tr.of (nthD [] []) 5⟩)
    | false => lf p σ K
  | false => lf p σ K
theorem L36_0_d (k : Nat) (κ : Res → Option Res) (h : ∀ (p0 : T14) (p1 : T14) (p2 : Int) (K : Cont), (ev Try.prog cfg k).loop 36 0 κ [true, true, false, true, false] ⟨27, Tr.of (nthD .undef [.list (.pair .str (.pair .str (.pair (.int .i64) (.pair (.int .i64) (.list (.pair (.int .i64) (.pair (.int .i64) (.pair .str .bool)))))))) p0 .no, .list (.pair .str (.pair .str (.pair (.int .i64) (.pair (.int .i64) (.list (.pair (.int .i64) (.pair (.int .i64) (.pair .str .bool)))))))) p1 .no, .undef, .undef, .undef, .int .i64 p2]) 5, Tr.of (nthD [] []) 5⟩ K = L36_0 k (fun x => κ ((.bool x, []) : Res)) p0 p1 p2 (fun v => K (.exit 0) ⟨27, Tr.of (nthD .undef [.list (.pair .str (.pair .str (.pair (.int .i64) (.pair (.int .i64) (.list (.pair (.int .i64) (.pair (.int .i64) (.pair .str .bool)))))))) p0 .no, .list (.pair .str (.pair .str (.pair (.int .i64) (.pair (.int .i64) (.list (.pair (.int .i64) (.pair (.int .i64) (.pair .str .bool)))))))) p1 .no, .undef, .undef, .undef, .int .i64 v]) 5, Tr.of (nthD [] []) 5⟩)) : L36_0_m (L36_0 k (fun x => κ ((.bool x, []) : Res))) ((ev Try.prog cfg k).loop 36 0 κ) = (ev Try.prog cfg k).loop 36 0 κ := by
  funext p σ K
  unfold L36_0_m
  split
  · rename_i hp
    split
    · rename_i hs
      have e : mkSt 27 L36_0_s L36_0_b σ = ⟨27, Tr.of (nthD .undef [.list (.pair .str (.pair .str (.pair (.int .i64) (.pair (.int .i64) (.list (.pair (.int .i64) (.pair (.int .i64) (.pair .str .bool)))))))) (listOf (.pair .str (.pair .str (.pair (.int .i64) (.pair (.int .i64) (.list (.pair (.int .i64) (.pair (.int .i64) (.pair .str .bool)))))))) (Tr.val .undef σ.slots)) .no, .list (.pair .str (.pair .str (.pair (.int .i64) (.pair (.int .i64) (.list (.pair (.int .i64) (.pair (.int .i64) (.pair .str .bool)))))))) (listOf (.pair .str (.pair .str (.pair (.int .i64) (.pair (.int .i64) (.list (.pair (.int .i64) (.pair (.int .i64) (.pair .str .bool)))))))) (Tr.val .undef (Tr.lft σ.slots))) .no, .undef, .undef, .undef, .int .i64 (intOf (Tr.val .undef (Tr.rgt (Tr.lft σ.slots))))]) 5, Tr.of (nthD [] []) 5⟩ := by kernel_rfl
      rw [pathEq_eq hp]
      exact (h (listOf (.pair .str (.pair .str (.pair (.int .i64) (.pair (.int .i64) (.list (.pair (.int .i64) (.pair (.int .i64) (.pair .str .bool)))))))) (Tr.val .undef σ.slots)) (listOf (.pair .str (.pair .str (.pair (.int .i64) (.pair (.int .i64) (.list (.pair (.int .i64) (.pair (.int .i64) (.pair .str .bool)))))))) (Tr.val .undef (Tr.lft σ.slots))) (intOf (Tr.val .undef (Tr.rgt (Tr.lft σ.slots)))) K).symm.trans (congrArg (fun s => (ev Try.prog cfg k).loop 36 0 κ [true, true, false, true, false] s K) (e.symm.trans (okSt_eq hs).symm))
    · rfl
  · rfl
theorem L36_0_k (gF88 : tF88) (gL36_0 : tL36_0) (cf : CallF) (lf : LoopF) (κ : Res → Option Res) (p0 : T14) (p1 : T14) (p2 : Int) (K : Cont) : evLp Try.prog cfg (F88_m gF88 cf) (L36_0_m gL36_0 lf) 36 0 κ [true, true, false, true, false] ⟨27, Tr.of (nthD .undef [.list (.pair .str (.pair .str (.pair (.int .i64) (.pair (.int .i64) (.list (.pair (.int .i64) (.pair (.int .i64) (.pair .str .bool)))))))) p0 .no, .list (.pair .str (.pair .str (.pair (.int .i64) (.pair (.int .i64) (.list (.pair (.int .i64) (.pair (.int .i64) (.pair .str .bool)))))))) p1 .no, .undef, .undef, .undef, .int .i64 p2]) 5, Tr.of (nthD [] []) 5⟩ K = L36_0_B gF88 gL36_0 (fun x => κ ((.bool x, []) : Res)) p0 p1 p2 (fun v => K (.exit 0) ⟨27, Tr.of (nthD .undef [.list (.pair .str (.pair .str (.pair (.int .i64) (.pair (.int .i64) (.list (.pair (.int .i64) (.pair (.int .i64) (.pair .str .bool)))))))) p0 .no, .list (.pair .str (.pair .str (.pair (.int .i64) (.pair (.int .i64) (.list (.pair (.int .i64) (.pair (.int .i64) (.pair .str .bool)))))))) p1 .no, .undef, .undef, .undef, .int .i64 v]) 5, Tr.of (nthD [] []) 5⟩) := by
  kernel_rfl
theorem L36_0_ev : ∀ (k : Nat) (κ : Res → Option Res) (p0 : T14) (p1 : T14) (p2 : Int) (K : Cont), (ev Try.prog cfg k).loop 36 0 κ [true, true, false, true, false] ⟨27, Tr.of (nthD .undef [.list (.pair .str (.pair .str (.pair (.int .i64) (.pair (.int .i64) (.list (.pair (.int .i64) (.pair (.int .i64) (.pair .str .bool)))))))) p0 .no, .list (.pair .str (.pair .str (.pair (.int .i64) (.pair (.int .i64) (.list (.pair (.int .i64) (.pair (.int .i64) (.pair .str .bool)))))))) p1 .no, .undef, .undef, .undef, .int .i64 p2]) 5, Tr.of (nthD [] []) 5⟩ K = L36_0 k (fun x => κ ((.bool x, []) : Res)) p0 p1 p2 (fun v => K (.exit 0) ⟨27, Tr.of (nthD .undef [.list (.pair .str (.pair .str (.pair (.int .i64) (.pair (.int .i64) (.list (.pair (.int .i64) (.pair (.int .i64) (.pair .str .bool)))))))) p0 .no, .list (.pair .str (.pair .str (.pair (.int .i64) (.pair (.int .i64) (.list (.pair (.int .i64) (.pair (.int .i64) (.pair .str .bool)))))))) p1 .no, .undef, .undef, .undef, .int .i64 v]) 5, Tr.of (nthD [] []) 5⟩) := by
  intro k κ
  induction k with
  | zero => intro p0 p1 p2 K; rfl
  | succ k ih =>
    intro p0 p1 p2 K
    rw [ev_loop, ← F88_d k (F88_ev k), ← L36_0_d k κ ih]
    exact L36_0_k _ _ _ _ κ p0 p1 p2 K
def F36_B (gF88 : tF88) (gL36_0 : tL36_0) (a0 : T14) (a1 : T14) (κ : Bool → Option Res) : Option Res :=
  chk3 (if ((a0.length : Int) != (a1.length : Int)) = true then
    (κ false)
   else
    (gL36_0 a0 a1 (0 : Int) fun v2 =>
    κ true))
/-- lamplighter/lamplighterref03.SameAll -/
def F36 : Nat → T14 → T14 → (Bool → Option Res) → Option Res
  | 0, _, _, _ => none
  | k + 1, a0, a1, κ => F36_B (F88 k) (L36_0 k κ) a0 a1 κ
def F36_s : List SC := [.one (.list (.pair .str (.pair .str (.pair (.int .i64) (.pair (.int .i64) (.list (.pair (.int .i64) (.pair (.int .i64) (.pair .str .bool)))))))) .no), .one (.list (.pair .str (.pair .str (.pair (.int .i64) (.pair (.int .i64) (.list (.pair (.int .i64) (.pair (.int .i64) (.pair .str .bool)))))))) .no)]
def F36_b : List (List SC) := []
def F36_m (g : T14 → T14 → (Bool → Option Res) → Option Res) (cf : CallF) : CallF := fun f args lent κ => match Nat.beq f 36 with
  | true => match okC F36_s args && okB F36_b lent with
    | true => g (listOf (.pair .str (.pair .str (.pair (.int .i64) (.pair (.int .i64) (.list (.pair (.int .i64) (.pair (.int .i64) (.pair .str .bool)))))))) (nth args 0)) (listOf (.pair .str (.pair .str (.pair (.int .i64) (.pair (.int .i64) (.list (.pair (.int .i64) (.pair (.int .i64) (.pair .str .bool)))))))) (nth args 1)) (fun x => κ ((.bool x, []) : Res))
    | false => cf f args lent κ
  | false => cf f args lent κ
theorem F36_d (k : Nat) (h : ∀ (a0 : T14) (a1 : T14) (κ : Res → Option Res), (ev Try.prog cfg k).call 36 [.list (.pair .str (.pair .str (.pair (.int .i64) (.pair (.int .i64) (.list (.pair (.int .i64) (.pair (.int .i64) (.pair .str .bool)))))))) a0 .no, .list (.pair .str (.pair .str (.pair (.int .i64) (.pair (.int .i64) (.list (.pair (.int .i64) (.pair (.int .i64) (.pair .str .bool)))))))) a1 .no] [] κ = F36 k a0 a1 (fun x => κ ((.bool x, []) : Res))) : F36_m (F36 k) (ev Try.prog cfg k).call = (ev Try.prog cfg k).call := by
  funext f args lent κ
  unfold F36_m
  split
  · rename_i hp
    split
    · rename_i hs
      rw [Bool.and_eq_true] at hs
      have e : mkC F36_s 0 args = [.list (.pair .str (.pair .str (.pair (.int .i64) (.pair (.int .i64) (.list (.pair (.int .i64) (.pair (.int .i64) (.pair .str .bool)))))))) (listOf (.pair .str (.pair .str (.pair (.int .i64) (.pair (.int .i64) (.list (.pair (.int .i64) (.pair (.int .i64) (.pair .str .bool)))))))) (nth args 0)) .no, .list (.pair .str (.pair .str (.pair (.int .i64) (.pair (.int .i64) (.list (.pair (.int .i64) (.pair (.int .i64) (.pair .str .bool)))))))) (listOf (.pair .str (.pair .str (.pair (.int .i64) (.pair (.int .i64) (.list (.pair (.int .i64) (.pair (.int .i64) (.pair .str .bool)))))))) (nth args 1)) .no] := by kernel_rfl
      have e' : mkB F36_b 0 lent = [] := by kernel_rfl
      obtain rfl := Nat.eq_of_beq_eq_true hp
      exact (h (listOf (.pair .str (.pair .str (.pair (.int .i64) (.pair (.int .i64) (.list (.pair (.int .i64) (.pair (.int .i64) (.pair .str .bool)))))))) (nth args 0)) (listOf (.pair .str (.pair .str (.pair (.int .i64) (.pair (.int .i64) (.list (.pair (.int .i64) (.pair (.int .i64) (.pair .str .bool)))))))) (nth args 1)) κ).symm.trans (cong2 (fun a l => (ev Try.prog cfg k).call 36 a l κ) (e.symm.trans (okC_eq hs.1).symm) (e'.symm.trans (okB_eq hs.2).symm))
    · rfl
  · rfl
theorem F36_k (gF88 : tF88) (gL36_0 : tL36_0) (cf : CallF) (lf : LoopF) (a0 : T14) (a1 : T14) (κ : Res → Option Res) : evFn Try.prog cfg (F88_m gF88 cf) (L36_0_m gL36_0 lf) 36 [.list (.pair .str (.pair .str (.pair (.int .i64) (.pair (.int .i64) (.list (.pair (.int .i64) (.pair (.int .i64) (.pair .str .bool)))))))) a0 .no, .list (.pair .str (.pair .str (.pair (.int .i64) (.pair (.int .i64) (.list (.pair (.int .i64) (.pair (.int .i64) (.pair .str .bool)))))))) a1 .no] [] κ = F36_B gF88 gL36_0 a0 a1 (fun x => κ ((.bool x, []) : Res)) := by
  kernel_rfl
theorem F36_ev : ∀ (k : Nat) (a0 : T14) (a1 : T14) (κ : Res → Option Res), (ev Try.prog cfg k).call 36 [.list (.pair .str (.pair .str (.pair (.int .i64) (.pair (.int .i64) (.list (.pair (.int .i64) (.pair (.int .i64) (.pair .str .bool)))))))) a0 .no, .list (.pair .str (.pair .str (.pair (.int .i64) (.pair (.int .i64) (.list (.pair (.int .i64) (.pair (.int .i64) (.pair .str .bool)))))))) a1 .no] [] κ = F36 k a0 a1 (fun x => κ ((.bool x, []) : Res)) := by
  intro k
  induction k with
  | zero => intros; rfl
  | succ k ih =>
    intro a0 a1 κ
    refine (ev_call' Try.prog cfg k 36 0 _ _ κ (by rfl)).trans ?_
    rw [← F88_d k (F88_ev k), ← L36_0_d k κ (L36_0_ev k κ)]
    exact F36_k _ _ _ _ a0 a1 κ
def L89_0_B (gF16 : tF16) (gL89_0 : tL89_0) (κ : ByteArray → Option Res) (p0 : (List (Int × Int))) (p1 : ByteArray) (p2 : Int) (K : ByteArray × Int → Option Res) : Option Res :=
  chk2 (if decide (p2 < (p0.length : Int)) = true then
    (if (true && (decide ((0 : Int) ≤ p2) && decide (p2 < (p0.length : Int)))) = true then
     (chk1 (gF16 ((p0.getD p2.toNat ((0 : Int), (0 : Int))).1) fun x2 =>
      chk1 (if (true && (decide ((0 : Int) ≤ p2) && decide (p2 < (p0.length : Int)))) = true then
        (chk1 (gF16 ((p0.getD p2.toNat ((0 : Int), (0 : Int))).2) fun x3 =>
         chk1 (if decide (x2.size + x3.size ≤ 9223372036854775807) = true then if decide (p1.size + (x2 ++ x3).size ≤ 9223372036854775807) = true then chk1 (gL89_0 p0 (p1 ++ (x2 ++ x3)) (IntKind.wrap .i64 (p2 + (1 : Int))) K) else none else none)))
       else
        (none))))
    else
     (none))
   else
    (K (p1, p2)))
def L89_0 : Nat → (ByteArray → Option Res) → (List (Int × Int)) → ByteArray → Int → (ByteArray × Int → Option Res) → Option Res
  | 0, _, _, _, _, _ => none
  | k + 1, κ, p0, p1, p2, K => L89_0_B (F16 k) (fun p0 p1 p2 K => L89_0 k κ p0 p1 p2 K) κ p0 p1 p2 K
def L89_0_s : Tr SC := Tr.of (nthD (.one .undef) [.one (.list (.pair (.int .i64) (.int .i64)) .no), .one .undef, .one .undef, .one .str, .one (.int .i64)]) 5
def L89_0_b : Tr (List SC) := Tr.of (nthD [] []) 5
def L89_0_m (g : (List (Int × Int)) → ByteArray → Int → (ByteArray × Int → Option Res) → Option Res) (lf : LoopF) : LoopF := fun p σ K => match pathEq p [true, true, false, true, false] with
  | true => match okSt 31 L89_0_s L89_0_b σ with
    | true => g (listOf (.pair (.int .i64) (.int .i64)) (Tr.val .undef σ.slots)) (stringOf (Tr.val .undef (Tr.lft (Tr.lft σ.slots)))) (intOf (Tr.val .undef (Tr.lft (Tr.rgt σ.slots)))) (fun v => K (.exit 0) ⟨31, Tr.of (nthD .undef [.list (.pair (.int .i64) (.int .i64)) (listOf (.pair (.int .i64) (.int .i64)) (Tr.val .undef σ.slots)) .no, .undef, .undef, .str v.1, .int .i64 v.2]) 5, Tr.of (nthD [] []) 5⟩)
    | false => lf p σ K
  | false => lf p σ K
theorem L89_0_d (k : Nat) (κ : Res → Option Res) (h : ∀ (p0 : (List (Int × Int))) (p1 : ByteArray) (p2 : Int) (K : Cont), (ev Try.prog cfg k).loop 89 0 κ [true, true, false, true, false] ⟨31, Tr.of (nthD .undef [.list (.pair (.int .i64) (.int .i64)) p0 .no, .undef, .undef, .str p1, .int .i64 p2]) 5, Tr.of (nthD [] []) 5⟩ K = L89_0 k (fun x => κ ((.str x, []) : Res)) p0 p1 p2 (fun v => K (.exit 0) ⟨31, Tr.of (nthD .undef [.list (.pair (.int .i64) (.int .i64)) p0 .no, .undef, .undef, .str v.1, .int .i64 v.2]) 5, Tr.of (nthD [] []) 5⟩)) : L89_0_m (L89_0 k (fun x => κ ((.str x, []) : Res))) ((ev Try.prog cfg k).loop 89 0 κ) = (ev Try.prog cfg k).loop 89 0 κ := by
  funext p σ K
  unfold L89_0_m
  split
  · rename_i hp
    split
    · rename_i hs
      have e : mkSt 31 L89_0_s L89_0_b σ = ⟨31, Tr.of (nthD .undef [.list (.pair (.int .i64) (.int .i64)) (listOf (.pair (.int .i64) (.int .i64)) (Tr.val .undef σ.slots)) .no, .undef, .undef, .str (stringOf (Tr.val .undef (Tr.lft (Tr.lft σ.slots)))), .int .i64 (intOf (Tr.val .undef (Tr.lft (Tr.rgt σ.slots))))]) 5, Tr.of (nthD [] []) 5⟩ := by kernel_rfl
      rw [pathEq_eq hp]
      exact (h (listOf (.pair (.int .i64) (.int .i64)) (Tr.val .undef σ.slots)) (stringOf (Tr.val .undef (Tr.lft (Tr.lft σ.slots)))) (intOf (Tr.val .undef (Tr.lft (Tr.rgt σ.slots)))) K).symm.trans (congrArg (fun s => (ev Try.prog cfg k).loop 89 0 κ [true, true, false, true, false] s K) (e.symm.trans (okSt_eq hs).symm))
    · rfl
  · rfl
theorem L89_0_k (gF16 : tF16) (gL89_0 : tL89_0) (cf : CallF) (lf : LoopF) (κ : Res → Option Res) (p0 : (List (Int × Int))) (p1 : ByteArray) (p2 : Int) (K : Cont) : evLp Try.prog cfg (F16_m gF16 cf) (L89_0_m gL89_0 lf) 89 0 κ [true, true, false, true, false] ⟨31, Tr.of (nthD .undef [.list (.pair (.int .i64) (.int .i64)) p0 .no, .undef, .undef, .str p1, .int .i64 p2]) 5, Tr.of (nthD [] []) 5⟩ K = L89_0_B gF16 gL89_0 (fun x => κ ((.str x, []) : Res)) p0 p1 p2 (fun v => K (.exit 0) ⟨31, Tr.of (nthD .undef [.list (.pair (.int .i64) (.int .i64)) p0 .no, .undef, .undef, .str v.1, .int .i64 v.2]) 5, Tr.of (nthD [] []) 5⟩) := by
  kernel_rfl
theorem L89_0_ev : ∀ (k : Nat) (κ : Res → Option Res) (p0 : (List (Int × Int))) (p1 : ByteArray) (p2 : Int) (K : Cont), (ev Try.prog cfg k).loop 89 0 κ [true, true, false, true, false] ⟨31, Tr.of (nthD .undef [.list (.pair (.int .i64) (.int .i64)) p0 .no, .undef, .undef, .str p1, .int .i64 p2]) 5, Tr.of (nthD [] []) 5⟩ K = L89_0 k (fun x => κ ((.str x, []) : Res)) p0 p1 p2 (fun v => K (.exit 0) ⟨31, Tr.of (nthD .undef [.list (.pair (.int .i64) (.int .i64)) p0 .no, .undef, .undef, .str v.1, .int .i64 v.2]) 5, Tr.of (nthD [] []) 5⟩) := by
  intro k κ
  induction k with
  | zero => intro p0 p1 p2 K; rfl
  | succ k ih =>
    intro p0 p1 p2 K
    rw [ev_loop, ← F16_d k (F16_ev k), ← L89_0_d k κ ih]
    exact L89_0_k _ _ _ _ κ p0 p1 p2 K
def F89_B (gF14 : tF14) (gF16 : tF16) (gL89_0 : tL89_0) (a0 : (List (Int × Int))) (κ : ByteArray → Option Res) : Option Res :=
  chk3 (gF14 (IntKind.wrap .u64 ((a0.length : Int))) fun x1 =>
   chk1 (gL89_0 a0 x1 (0 : Int) fun v4 =>
    κ v4.1))
/-- lamplighter/lamplighterref53.Pairs -/
def F89 : Nat → (List (Int × Int)) → (ByteArray → Option Res) → Option Res
  | 0, _, _ => none
  | k + 1, a0, κ => F89_B (F14 k) (F16 k) (L89_0 k κ) a0 κ
def F89_s : List SC := [.one (.list (.pair (.int .i64) (.int .i64)) .no)]
def F89_b : List (List SC) := []
def F89_m (g : (List (Int × Int)) → (ByteArray → Option Res) → Option Res) (cf : CallF) : CallF := fun f args lent κ => match Nat.beq f 89 with
  | true => match okC F89_s args && okB F89_b lent with
    | true => g (listOf (.pair (.int .i64) (.int .i64)) (nth args 0)) (fun x => κ ((.str x, []) : Res))
    | false => cf f args lent κ
  | false => cf f args lent κ
theorem F89_d (k : Nat) (h : ∀ (a0 : (List (Int × Int))) (κ : Res → Option Res), (ev Try.prog cfg k).call 89 [.list (.pair (.int .i64) (.int .i64)) a0 .no] [] κ = F89 k a0 (fun x => κ ((.str x, []) : Res))) : F89_m (F89 k) (ev Try.prog cfg k).call = (ev Try.prog cfg k).call := by
  funext f args lent κ
  unfold F89_m
  split
  · rename_i hp
    split
    · rename_i hs
      rw [Bool.and_eq_true] at hs
      have e : mkC F89_s 0 args = [.list (.pair (.int .i64) (.int .i64)) (listOf (.pair (.int .i64) (.int .i64)) (nth args 0)) .no] := by kernel_rfl
      have e' : mkB F89_b 0 lent = [] := by kernel_rfl
      obtain rfl := Nat.eq_of_beq_eq_true hp
      exact (h (listOf (.pair (.int .i64) (.int .i64)) (nth args 0)) κ).symm.trans (cong2 (fun a l => (ev Try.prog cfg k).call 89 a l κ) (e.symm.trans (okC_eq hs.1).symm) (e'.symm.trans (okB_eq hs.2).symm))
    · rfl
  · rfl
theorem F89_k (gF14 : tF14) (gF16 : tF16) (gL89_0 : tL89_0) (cf : CallF) (lf : LoopF) (a0 : (List (Int × Int))) (κ : Res → Option Res) : evFn Try.prog cfg (F14_m gF14 (F16_m gF16 cf)) (L89_0_m gL89_0 lf) 89 [.list (.pair (.int .i64) (.int .i64)) a0 .no] [] κ = F89_B gF14 gF16 gL89_0 a0 (fun x => κ ((.str x, []) : Res)) := by
  kernel_rfl
theorem F89_ev : ∀ (k : Nat) (a0 : (List (Int × Int))) (κ : Res → Option Res), (ev Try.prog cfg k).call 89 [.list (.pair (.int .i64) (.int .i64)) a0 .no] [] κ = F89 k a0 (fun x => κ ((.str x, []) : Res)) := by
  intro k
  induction k with
  | zero => intros; rfl
  | succ k ih =>
    intro a0 κ
    refine (ev_call' Try.prog cfg k 89 0 _ _ κ (by rfl)).trans ?_
    rw [← F14_d k (F14_ev k), ← F16_d k (F16_ev k), ← L89_0_d k κ (L89_0_ev k κ)]
    exact F89_k _ _ _ _ _ a0 κ
def F37_B (gF14 : tF14) (gF18 : tF18) (gF16 : tF16) (gF89 : tF89) (a0 : T11) (κ : ByteArray → Option Res) : Option Res :=
  chk3 (gF14 (IntKind.wrap .u64 (a0.1)) fun x1 =>
   chk2 (gF18 a0.2.1 fun x2 =>
    chk1 (if decide (x1.size + x2.size ≤ 9223372036854775807) = true then
      (chk1 (gF16 a0.2.2.1 fun x3 =>
       chk1 (if decide ((x1 ++ x2).size + x3.size ≤ 9223372036854775807) = true then
         (chk1 (gF18 a0.2.2.2.1 fun x4 =>
          chk1 (if decide (((x1 ++ x2) ++ x3).size + x4.size ≤ 9223372036854775807) = true then
            (chk1 (gF16 a0.2.2.2.2.1 fun x5 =>
             chk1 (if decide ((((x1 ++ x2) ++ x3) ++ x4).size + x5.size ≤ 9223372036854775807) = true then
               (chk1 (gF16 a0.2.2.2.2.2.1 fun x6 =>
                chk1 (if decide (((((x1 ++ x2) ++ x3) ++ x4) ++ x5).size + x6.size ≤ 9223372036854775807) = true then
                  (chk1 (gF89 a0.2.2.2.2.2.2 fun x7 =>
                   chk1 (if decide ((((((x1 ++ x2) ++ x3) ++ x4) ++ x5) ++ x6).size + x7.size ≤ 9223372036854775807) = true then κ ((((((x1 ++ x2) ++ x3) ++ x4) ++ x5) ++ x6) ++ x7) else none)))
                 else
                  (none))))
              else
               (none))))
           else
            (none))))
        else
         (none))))
     else
      (none))))
/-- lamplighter/lamplighterref53.Out -/
def F37 : Nat → T11 → (ByteArray → Option Res) → Option Res
  | 0, _, _ => none
  | k + 1, a0, κ => F37_B (F14 k) (F18 k) (F16 k) (F89 k) a0 κ
def F37_s : List SC := [.agg [.int .i64, .str, .int .i64, .str, .int .i64, .int .i64, .list (.pair (.int .i64) (.int .i64)) .no]]
def F37_b : List (List SC) := []
def F37_m (g : T11 → (ByteArray → Option Res) → Option Res) (cf : CallF) : CallF := fun f args lent κ => match Nat.beq f 37 with
  | true => match okC F37_s args && okB F37_b lent with
    | true => g ((intOf (nth (aggOf (nth args 0)) 0)), ((stringOf (nth (aggOf (nth args 0)) 1)), ((intOf (nth (aggOf (nth args 0)) 2)), ((stringOf (nth (aggOf (nth args 0)) 3)), ((intOf (nth (aggOf (nth args 0)) 4)), ((intOf (nth (aggOf (nth args 0)) 5)), (listOf (.pair (.int .i64) (.int .i64)) (nth (aggOf (nth args 0)) 6)))))))) (fun x => κ ((.str x, []) : Res))
    | false => cf f args lent κ
  | false => cf f args lent κ
theorem F37_d (k : Nat) (h : ∀ (a0 : T11) (κ : Res → Option Res), (ev Try.prog cfg k).call 37 [.agg [.int .i64 a0.1, .str a0.2.1, .int .i64 a0.2.2.1, .str a0.2.2.2.1, .int .i64 a0.2.2.2.2.1, .int .i64 a0.2.2.2.2.2.1, .list (.pair (.int .i64) (.int .i64)) a0.2.2.2.2.2.2 .no]] [] κ = F37 k a0 (fun x => κ ((.str x, []) : Res))) : F37_m (F37 k) (ev Try.prog cfg k).call = (ev Try.prog cfg k).call := by
  funext f args lent κ
  unfold F37_m
  split
  · rename_i hp
    split
    · rename_i hs
      rw [Bool.and_eq_true] at hs
      have e : mkC F37_s 0 args = [.agg [.int .i64 (intOf (nth (aggOf (nth args 0)) 0)), .str (stringOf (nth (aggOf (nth args 0)) 1)), .int .i64 (intOf (nth (aggOf (nth args 0)) 2)), .str (stringOf (nth (aggOf (nth args 0)) 3)), .int .i64 (intOf (nth (aggOf (nth args 0)) 4)), .int .i64 (intOf (nth (aggOf (nth args 0)) 5)), .list (.pair (.int .i64) (.int .i64)) (listOf (.pair (.int .i64) (.int .i64)) (nth (aggOf (nth args 0)) 6)) .no]] := by kernel_rfl
      have e' : mkB F37_b 0 lent = [] := by kernel_rfl
      obtain rfl := Nat.eq_of_beq_eq_true hp
      exact (h ((intOf (nth (aggOf (nth args 0)) 0)), ((stringOf (nth (aggOf (nth args 0)) 1)), ((intOf (nth (aggOf (nth args 0)) 2)), ((stringOf (nth (aggOf (nth args 0)) 3)), ((intOf (nth (aggOf (nth args 0)) 4)), ((intOf (nth (aggOf (nth args 0)) 5)), (listOf (.pair (.int .i64) (.int .i64)) (nth (aggOf (nth args 0)) 6)))))))) κ).symm.trans (cong2 (fun a l => (ev Try.prog cfg k).call 37 a l κ) (e.symm.trans (okC_eq hs.1).symm) (e'.symm.trans (okB_eq hs.2).symm))
    · rfl
  · rfl
theorem F37_k (gF14 : tF14) (gF18 : tF18) (gF16 : tF16) (gF89 : tF89) (cf : CallF) (lf : LoopF) (a0 : T11) (κ : Res → Option Res) : evFn Try.prog cfg (F14_m gF14 (F18_m gF18 (F16_m gF16 (F89_m gF89 cf)))) lf 37 [.agg [.int .i64 a0.1, .str a0.2.1, .int .i64 a0.2.2.1, .str a0.2.2.2.1, .int .i64 a0.2.2.2.2.1, .int .i64 a0.2.2.2.2.2.1, .list (.pair (.int .i64) (.int .i64)) a0.2.2.2.2.2.2 .no]] [] κ = F37_B gF14 gF18 gF16 gF89 a0 (fun x => κ ((.str x, []) : Res)) := by
  kernel_rfl
theorem F37_ev : ∀ (k : Nat) (a0 : T11) (κ : Res → Option Res), (ev Try.prog cfg k).call 37 [.agg [.int .i64 a0.1, .str a0.2.1, .int .i64 a0.2.2.1, .str a0.2.2.2.1, .int .i64 a0.2.2.2.2.1, .int .i64 a0.2.2.2.2.2.1, .list (.pair (.int .i64) (.int .i64)) a0.2.2.2.2.2.2 .no]] [] κ = F37 k a0 (fun x => κ ((.str x, []) : Res)) := by
  intro k
  induction k with
  | zero => intros; rfl
  | succ k ih =>
    intro a0 κ
    refine (ev_call' Try.prog cfg k 37 0 _ _ κ (by rfl)).trans ?_
    rw [← F14_d k (F14_ev k), ← F18_d k (F18_ev k), ← F16_d k (F16_ev k), ← F89_d k (F89_ev k)]
    exact F37_k _ _ _ _ _ _ a0 κ
def L90_0_B (gL90_0 : tL90_0) (κ : Bool → Option Res) (p0 : (List (Int × Int))) (p1 : (List (Int × Int))) (p2 : Int) (K : Int → Option Res) : Option Res :=
  chk2 (if decide (p2 < (p0.length : Int)) = true then
    (if (true && (decide ((0 : Int) ≤ p2) && decide (p2 < (p0.length : Int)))) = true then
     (if (true && (decide ((0 : Int) ≤ p2) && decide (p2 < (p1.length : Int)))) = true then
      (chk1 (if (!((((p0.getD p2.toNat ((0 : Int), (0 : Int))).1) == ((p1.getD p2.toNat ((0 : Int), (0 : Int))).1)) && (((p0.getD p2.toNat ((0 : Int), (0 : Int))).2) == ((p1.getD p2.toNat ((0 : Int), (0 : Int))).2)))) = true then
        (κ false)
       else
        (chk1 (gL90_0 p0 p1 (IntKind.wrap .i64 (p2 + (1 : Int))) K))))
     else
      (none))
    else
     (none))
   else
    (K p2))
def L90_0 : Nat → (Bool → Option Res) → (List (Int × Int)) → (List (Int × Int)) → Int → (Int → Option Res) → Option Res
  | 0, _, _, _, _, _ => none
  | k + 1, κ, p0, p1, p2, K => L90_0_B (fun p0 p1 p2 K => L90_0 k κ p0 p1 p2 K) κ p0 p1 p2 K
def L90_0_s : Tr SC := Tr.of (nthD (.one .undef) [.one (.list (.pair (.int .i64) (.int .i64)) .no), .one (.list (.pair (.int .i64) (.int .i64)) .no), .one .undef, .one .undef, .one .undef, .one (.int .i64)]) 5
def L90_0_b : Tr (List SC) := Tr.of (nthD [] []) 5
def L90_0_m (g : (List (Int × Int)) → (List (Int × Int)) → Int → (Int → Option Res) → Option Res) (lf : LoopF) : LoopF := fun p σ K => match pathEq p [true, true, false, true, false] with
  | true => match okSt 26 L90_0_s L90_0_b σ with
    | true => g (listOf (.pair (.int .i64) (.int .i64)) (Tr.val .undef σ.slots)) (listOf (.pair (.int .i64) (.int .i64)) (Tr.val .undef (Tr.lft σ.slots))) (intOf (Tr.val .undef (Tr.rgt (Tr.lft σ.slots)))) (fun v => K (.exit 0) ⟨26, Tr.of (nthD .undef [.list (.pair (.int .i64) (.int .i64)) (listOf (.pair (.int .i64) (.int .i64)) (Tr.val .undef σ.slots)) .no, .list (.pair (.int .i64) (.int .i64)) (listOf (.pair (.int .i64) (.int .i64)) (Tr.val .undef (Tr.lft σ.slots))) .no, .undef, .undef, .undef, .int .i64 v]) 5, Tr.of (nthD [] []) 5⟩)
    | false => lf p σ K
  | false => lf p σ K
theorem L90_0_d (k : Nat) (κ : Res → Option Res) (h : ∀ (p0 : (List (Int × Int))) (p1 : (List (Int × Int))) (p2 : Int) (K : Cont), (ev Try.prog cfg k).loop 90 0 κ [true, true, false, true, false] ⟨26, Tr.of (nthD .undef [.list (.pair (.int .i64) (.int .i64)) p0 .no, .list (.pair (.int .i64) (.int .i64)) p1 .no, .undef, .undef, .undef, .int .i64 p2]) 5, Tr.of (nthD [] []) 5⟩ K = L90_0 k (fun x => κ ((.bool x, []) : Res)) p0 p1 p2 (fun v => K (.exit 0) ⟨26, Tr.of (nthD .undef [.list (.pair (.int .i64) (.int .i64)) p0 .no, .list (.pair (.int .i64) (.int .i64)) p1 .no, .undef, .undef, .undef, .int .i64 v]) 5, Tr.of (nthD [] []) 5⟩)) : L90_0_m (L90_0 k (fun x => κ ((.bool x, []) : Res))) ((ev Try.prog cfg k).loop 90 0 κ) = (ev Try.prog cfg k).loop 90 0 κ := by
  funext p σ K
  unfold L90_0_m
  split
  · rename_i hp
    split
    · rename_i hs
      have e : mkSt 26 L90_0_s L90_0_b σ = ⟨26, Tr.of (nthD .undef [.list (.pair (.int .i64) (.int .i64)) (listOf (.pair (.int .i64) (.int .i64)) (Tr.val .undef σ.slots)) .no, .list (.pair (.int .i64) (.int .i64)) (listOf (.pair (.int .i64) (.int .i64)) (Tr.val .undef (Tr.lft σ.slots))) .no, .undef, .undef, .undef, .int .i64 (intOf (Tr.val .undef (Tr.rgt (Tr.lft σ.slots))))]) 5, Tr.of (nthD [] []) 5⟩ := by kernel_rfl
      rw [pathEq_eq hp]
      exact (h (listOf (.pair (.int .i64) (.int .i64)) (Tr.val .undef σ.slots)) (listOf (.pair (.int .i64) (.int .i64)) (Tr.val .undef (Tr.lft σ.slots))) (intOf (Tr.val .undef (Tr.rgt (Tr.lft σ.slots)))) K).symm.trans (congrArg (fun s => (ev Try.prog cfg k).loop 90 0 κ [true, true, false, true, false] s K) (e.symm.trans (okSt_eq hs).symm))
    · rfl
  · rfl
theorem L90_0_k (gL90_0 : tL90_0) (cf : CallF) (lf : LoopF) (κ : Res → Option Res) (p0 : (List (Int × Int))) (p1 : (List (Int × Int))) (p2 : Int) (K : Cont) : evLp Try.prog cfg cf (L90_0_m gL90_0 lf) 90 0 κ [true, true, false, true, false] ⟨26, Tr.of (nthD .undef [.list (.pair (.int .i64) (.int .i64)) p0 .no, .list (.pair (.int .i64) (.int .i64)) p1 .no, .undef, .undef, .undef, .int .i64 p2]) 5, Tr.of (nthD [] []) 5⟩ K = L90_0_B gL90_0 (fun x => κ ((.bool x, []) : Res)) p0 p1 p2 (fun v => K (.exit 0) ⟨26, Tr.of (nthD .undef [.list (.pair (.int .i64) (.int .i64)) p0 .no, .list (.pair (.int .i64) (.int .i64)) p1 .no, .undef, .undef, .undef, .int .i64 v]) 5, Tr.of (nthD [] []) 5⟩) := by
  kernel_rfl
theorem L90_0_ev : ∀ (k : Nat) (κ : Res → Option Res) (p0 : (List (Int × Int))) (p1 : (List (Int × Int))) (p2 : Int) (K : Cont), (ev Try.prog cfg k).loop 90 0 κ [true, true, false, true, false] ⟨26, Tr.of (nthD .undef [.list (.pair (.int .i64) (.int .i64)) p0 .no, .list (.pair (.int .i64) (.int .i64)) p1 .no, .undef, .undef, .undef, .int .i64 p2]) 5, Tr.of (nthD [] []) 5⟩ K = L90_0 k (fun x => κ ((.bool x, []) : Res)) p0 p1 p2 (fun v => K (.exit 0) ⟨26, Tr.of (nthD .undef [.list (.pair (.int .i64) (.int .i64)) p0 .no, .list (.pair (.int .i64) (.int .i64)) p1 .no, .undef, .undef, .undef, .int .i64 v]) 5, Tr.of (nthD [] []) 5⟩) := by
  intro k κ
  induction k with
  | zero => intro p0 p1 p2 K; rfl
  | succ k ih =>
    intro p0 p1 p2 K
    rw [ev_loop, ← L90_0_d k κ ih]
    exact L90_0_k _ _ _ κ p0 p1 p2 K
def F90_B (gL90_0 : tL90_0) (a0 : (List (Int × Int))) (a1 : (List (Int × Int))) (κ : Bool → Option Res) : Option Res :=
  chk3 (if ((a0.length : Int) != (a1.length : Int)) = true then
    (κ false)
   else
    (gL90_0 a0 a1 (0 : Int) fun v1 =>
    κ true))
/-- lamplighter/lamplighterref03.SamePairs -/
def F90 : Nat → (List (Int × Int)) → (List (Int × Int)) → (Bool → Option Res) → Option Res
  | 0, _, _, _ => none
  | k + 1, a0, a1, κ => F90_B (L90_0 k κ) a0 a1 κ
def F90_s : List SC := [.one (.list (.pair (.int .i64) (.int .i64)) .no), .one (.list (.pair (.int .i64) (.int .i64)) .no)]
def F90_b : List (List SC) := []
def F90_m (g : (List (Int × Int)) → (List (Int × Int)) → (Bool → Option Res) → Option Res) (cf : CallF) : CallF := fun f args lent κ => match Nat.beq f 90 with
  | true => match okC F90_s args && okB F90_b lent with
    | true => g (listOf (.pair (.int .i64) (.int .i64)) (nth args 0)) (listOf (.pair (.int .i64) (.int .i64)) (nth args 1)) (fun x => κ ((.bool x, []) : Res))
    | false => cf f args lent κ
  | false => cf f args lent κ
theorem F90_d (k : Nat) (h : ∀ (a0 : (List (Int × Int))) (a1 : (List (Int × Int))) (κ : Res → Option Res), (ev Try.prog cfg k).call 90 [.list (.pair (.int .i64) (.int .i64)) a0 .no, .list (.pair (.int .i64) (.int .i64)) a1 .no] [] κ = F90 k a0 a1 (fun x => κ ((.bool x, []) : Res))) : F90_m (F90 k) (ev Try.prog cfg k).call = (ev Try.prog cfg k).call := by
  funext f args lent κ
  unfold F90_m
  split
  · rename_i hp
    split
    · rename_i hs
      rw [Bool.and_eq_true] at hs
      have e : mkC F90_s 0 args = [.list (.pair (.int .i64) (.int .i64)) (listOf (.pair (.int .i64) (.int .i64)) (nth args 0)) .no, .list (.pair (.int .i64) (.int .i64)) (listOf (.pair (.int .i64) (.int .i64)) (nth args 1)) .no] := by kernel_rfl
      have e' : mkB F90_b 0 lent = [] := by kernel_rfl
      obtain rfl := Nat.eq_of_beq_eq_true hp
      exact (h (listOf (.pair (.int .i64) (.int .i64)) (nth args 0)) (listOf (.pair (.int .i64) (.int .i64)) (nth args 1)) κ).symm.trans (cong2 (fun a l => (ev Try.prog cfg k).call 90 a l κ) (e.symm.trans (okC_eq hs.1).symm) (e'.symm.trans (okB_eq hs.2).symm))
    · rfl
  · rfl
theorem F90_k (gL90_0 : tL90_0) (cf : CallF) (lf : LoopF) (a0 : (List (Int × Int))) (a1 : (List (Int × Int))) (κ : Res → Option Res) : evFn Try.prog cfg cf (L90_0_m gL90_0 lf) 90 [.list (.pair (.int .i64) (.int .i64)) a0 .no, .list (.pair (.int .i64) (.int .i64)) a1 .no] [] κ = F90_B gL90_0 a0 a1 (fun x => κ ((.bool x, []) : Res)) := by
  kernel_rfl
theorem F90_ev : ∀ (k : Nat) (a0 : (List (Int × Int))) (a1 : (List (Int × Int))) (κ : Res → Option Res), (ev Try.prog cfg k).call 90 [.list (.pair (.int .i64) (.int .i64)) a0 .no, .list (.pair (.int .i64) (.int .i64)) a1 .no] [] κ = F90 k a0 a1 (fun x => κ ((.bool x, []) : Res)) := by
  intro k
  induction k with
  | zero => intros; rfl
  | succ k ih =>
    intro a0 a1 κ
    refine (ev_call' Try.prog cfg k 90 0 _ _ κ (by rfl)).trans ?_
    rw [← L90_0_d k κ (L90_0_ev k κ)]
    exact F90_k _ _ _ a0 a1 κ
def L38_0_B (gF90 : tF90) (gL38_0 : tL38_0) (κ : Bool → Option Res) (p0 : T12) (p1 : T12) (p2 : Int) (K : Int → Option Res) : Option Res :=
  chk2 (if decide (p2 < (p0.length : Int)) = true then
    (if (true && (decide ((0 : Int) ≤ p2) && decide (p2 < (p0.length : Int)))) = true then
     (if (true && (decide ((0 : Int) ≤ p2) && decide (p2 < (p1.length : Int)))) = true then
      (chk7 (if (((p0.getD p2.toNat ((0 : Int), ((⟨#[]⟩ : ByteArray), ((0 : Int), ((⟨#[]⟩ : ByteArray), ((0 : Int), ((0 : Int), ([] : List (Int × Int))))))))).1) != ((p1.getD p2.toNat ((0 : Int), ((⟨#[]⟩ : ByteArray), ((0 : Int), ((⟨#[]⟩ : ByteArray), ((0 : Int), ((0 : Int), ([] : List (Int × Int))))))))).1)) = true then
        (chk6 (κ false))
       else
        (chk1 (if (!((((p0.getD p2.toNat ((0 : Int), ((⟨#[]⟩ : ByteArray), ((0 : Int), ((⟨#[]⟩ : ByteArray), ((0 : Int), ((0 : Int), ([] : List (Int × Int))))))))).2).1).toList == (((p1.getD p2.toNat ((0 : Int), ((⟨#[]⟩ : ByteArray), ((0 : Int), ((⟨#[]⟩ : ByteArray), ((0 : Int), ((0 : Int), ([] : List (Int × Int))))))))).2).1).toList)) = true then
          (chk5 (κ false))
         else
          (chk1 (if (((((p0.getD p2.toNat ((0 : Int), ((⟨#[]⟩ : ByteArray), ((0 : Int), ((⟨#[]⟩ : ByteArray), ((0 : Int), ((0 : Int), ([] : List (Int × Int))))))))).2).2).1) != ((((p1.getD p2.toNat ((0 : Int), ((⟨#[]⟩ : ByteArray), ((0 : Int), ((⟨#[]⟩ : ByteArray), ((0 : Int), ((0 : Int), ([] : List (Int × Int))))))))).2).2).1)) = true then
            (chk4 (κ false))
           else
            (chk1 (if (!((((((p0.getD p2.toNat ((0 : Int), ((⟨#[]⟩ : ByteArray), ((0 : Int), ((⟨#[]⟩ : ByteArray), ((0 : Int), ((0 : Int), ([] : List (Int × Int))))))))).2).2).2).1).toList == (((((p1.getD p2.toNat ((0 : Int), ((⟨#[]⟩ : ByteArray), ((0 : Int), ((⟨#[]⟩ : ByteArray), ((0 : Int), ((0 : Int), ([] : List (Int × Int))))))))).2).2).2).1).toList)) = true then
              (chk3 (κ false))
             else
              (chk1 (if (((((((p0.getD p2.toNat ((0 : Int), ((⟨#[]⟩ : ByteArray), ((0 : Int), ((⟨#[]⟩ : ByteArray), ((0 : Int), ((0 : Int), ([] : List (Int × Int))))))))).2).2).2).2).1) != ((((((p1.getD p2.toNat ((0 : Int), ((⟨#[]⟩ : ByteArray), ((0 : Int), ((⟨#[]⟩ : ByteArray), ((0 : Int), ((0 : Int), ([] : List (Int × Int))))))))).2).2).2).2).1)) = true then
                (chk2 (κ false))
               else
                (chk1 (if ((((((((p0.getD p2.toNat ((0 : Int), ((⟨#[]⟩ : ByteArray), ((0 : Int), ((⟨#[]⟩ : ByteArray), ((0 : Int), ((0 : Int), ([] : List (Int × Int))))))))).2).2).2).2).2).1) != (((((((p1.getD p2.toNat ((0 : Int), ((⟨#[]⟩ : ByteArray), ((0 : Int), ((⟨#[]⟩ : ByteArray), ((0 : Int), ((0 : Int), ([] : List (Int × Int))))))))).2).2).2).2).2).1)) = true then
                  (chk1 (κ false))
                 else
                  (chk1 (gF90 (((((((p0.getD p2.toNat ((0 : Int), ((⟨#[]⟩ : ByteArray), ((0 : Int), ((⟨#[]⟩ : ByteArray), ((0 : Int), ((0 : Int), ([] : List (Int × Int))))))))).2).2).2).2).2).2) (((((((p1.getD p2.toNat ((0 : Int), ((⟨#[]⟩ : ByteArray), ((0 : Int), ((⟨#[]⟩ : ByteArray), ((0 : Int), ((0 : Int), ([] : List (Int × Int))))))))).2).2).2).2).2).2) fun x1 =>
                   chk1 (if (!x1) = true then
                     (κ false)
                    else
                     (chk1 (gL38_0 p0 p1 (IntKind.wrap .i64 (p2 + (1 : Int))) K)))))))))))))))))
     else
      (none))
    else
     (none))
   else
    (K p2))
def L38_0 : Nat → (Bool → Option Res) → T12 → T12 → Int → (Int → Option Res) → Option Res
  | 0, _, _, _, _, _ => none
  | k + 1, κ, p0, p1, p2, K => L38_0_B (F90 k) (fun p0 p1 p2 K => L38_0 k κ p0 p1 p2 K) κ p0 p1 p2 K
def L38_0_s : Tr SC := Tr.of (nthD (.one .undef) [.one (.list (.pair (.int .i64) (.pair .str (.pair (.int .i64) (.pair .str (.pair (.int .i64) (.pair (.int .i64) (.list (.pair (.int .i64) (.int .i64))))))))) .no), .one (.list (.pair (.int .i64) (.pair .str (.pair (.int .i64) (.pair .str (.pair (.int .i64) (.pair (.int .i64) (.list (.pair (.int .i64) (.int .i64))))))))) .no), .one .undef, .one .undef, .one .undef, .one (.int .i64)]) 7
def L38_0_b : Tr (List SC) := Tr.of (nthD [] []) 7
def L38_0_m (g : T12 → T12 → Int → (Int → Option Res) → Option Res) (lf : LoopF) : LoopF := fun p σ K => match pathEq p [true, true, false, true, false] with
  | true => match okSt 75 L38_0_s L38_0_b σ with
    | true => g (listOf (.pair (.int .i64) (.pair .str (.pair (.int .i64) (.pair .str (.pair (.int .i64) (.pair (.int .i64) (.list (.pair (.int .i64) (.int .i64))))))))) (Tr.val .undef σ.slots)) (listOf (.pair (.int .i64) (.pair .str (.pair (.int .i64) (.pair .str (.pair (.int .i64) (.pair (.int .i64) (.list (.pair (.int .i64) (.int .i64))))))))) (Tr.val .undef (Tr.lft σ.slots))) (intOf (Tr.val .undef (Tr.rgt (Tr.lft σ.slots)))) (fun v => K (.exit 0) ⟨75, Tr.of (nthD .undef [.list (.pair (.int .i64) (.pair .str (.pair (.int .i64) (.pair .str (.pair (.int .i64) (.pair (.int .i64) (.list (.pair (.int .i64) (.int .i64))))))))) (listOf (.pair (.int .i64) (.pair .str (.pair (.int .i64) (.pair .str (.pair (.int .i64) (.pair (.int .i64) (.list (.pair (.int .i64) (.int .i64))))))))) (Tr.val .undef σ.slots)) .no, .list (.pair (.int .i64) (.pair .str (.pair (.int .i64) (.pair .str (.pair (.int .i64) (.pair (.int .i64) (.list (.pair (.int .i64) (.int .i64))))))))) (listOf (.pair (.int .i64) (.pair .str (.pair (.int .i64) (.pair .str (.pair (.int .i64) (.pair (.int .i64) (.list (.pair (.int .i64) (.int .i64))))))))) (Tr.val .undef (Tr.lft σ.slots))) .no, .undef, .undef, .undef, .int .i64 v]) 7, Tr.of (nthD [] []) 7⟩)
    | false => lf p σ K
  | false => lf p σ K
theorem L38_0_d (k : Nat) (κ : Res → Option Res) (h : ∀ (p0 : T12) (p1 : T12) (p2 : Int) (K : Cont), (ev Try.prog cfg k).loop 38 0 κ [true, true, false, true, false] ⟨75, Tr.of (nthD .undef [.list (.pair (.int .i64) (.pair .str (.pair (.int .i64) (.pair .str (.pair (.int .i64) (.pair (.int .i64) (.list (.pair (.int .i64) (.int .i64))))))))) p0 .no, .list (.pair (.int .i64) (.pair .str (.pair (.int .i64) (.pair .str (.pair (.int .i64) (.pair (.int .i64) (.list (.pair (.int .i64) (.int .i64))))))))) p1 .no, .undef, .undef, .undef, .int .i64 p2]) 7, Tr.of (nthD [] []) 7⟩ K = L38_0 k (fun x => κ ((.bool x, []) : Res)) p0 p1 p2 (fun v => K (.exit 0) ⟨75, Tr.of (nthD .undef [.list (.pair (.int .i64) (.pair .str (.pair (.int .i64) (.pair .str (.pair (.int .i64) (.pair (.int .i64) (.list (.pair (.int .i64) (.int .i64))))))))) p0 .no, .list (.pair (.int .i64) (.pair .str (.pair (.int .i64) (.pair .str (.pair (.int .i64) (.pair (.int .i64) (.list (.pair (.int .i64) (.int .i64))))))))) p1 .no, .undef, .undef, .undef, .int .i64 v]) 7, Tr.of (nthD [] []) 7⟩)) : L38_0_m (L38_0 k (fun x => κ ((.bool x, []) : Res))) ((ev Try.prog cfg k).loop 38 0 κ) = (ev Try.prog cfg k).loop 38 0 κ := by
  funext p σ K
  unfold L38_0_m
  split
  · rename_i hp
    split
    · rename_i hs
      have e : mkSt 75 L38_0_s L38_0_b σ = ⟨75, Tr.of (nthD .undef [.list (.pair (.int .i64) (.pair .str (.pair (.int .i64) (.pair .str (.pair (.int .i64) (.pair (.int .i64) (.list (.pair (.int .i64) (.int .i64))))))))) (listOf (.pair (.int .i64) (.pair .str (.pair (.int .i64) (.pair .str (.pair (.int .i64) (.pair (.int .i64) (.list (.pair (.int .i64) (.int .i64))))))))) (Tr.val .undef σ.slots)) .no, .list (.pair (.int .i64) (.pair .str (.pair (.int .i64) (.pair .str (.pair (.int .i64) (.pair (.int .i64) (.list (.pair (.int .i64) (.int .i64))))))))) (listOf (.pair (.int .i64) (.pair .str (.pair (.int .i64) (.pair .str (.pair (.int .i64) (.pair (.int .i64) (.list (.pair (.int .i64) (.int .i64))))))))) (Tr.val .undef (Tr.lft σ.slots))) .no, .undef, .undef, .undef, .int .i64 (intOf (Tr.val .undef (Tr.rgt (Tr.lft σ.slots))))]) 7, Tr.of (nthD [] []) 7⟩ := by kernel_rfl
      rw [pathEq_eq hp]
      exact (h (listOf (.pair (.int .i64) (.pair .str (.pair (.int .i64) (.pair .str (.pair (.int .i64) (.pair (.int .i64) (.list (.pair (.int .i64) (.int .i64))))))))) (Tr.val .undef σ.slots)) (listOf (.pair (.int .i64) (.pair .str (.pair (.int .i64) (.pair .str (.pair (.int .i64) (.pair (.int .i64) (.list (.pair (.int .i64) (.int .i64))))))))) (Tr.val .undef (Tr.lft σ.slots))) (intOf (Tr.val .undef (Tr.rgt (Tr.lft σ.slots)))) K).symm.trans (congrArg (fun s => (ev Try.prog cfg k).loop 38 0 κ [true, true, false, true, false] s K) (e.symm.trans (okSt_eq hs).symm))
    · rfl
  · rfl
theorem L38_0_k (gF90 : tF90) (gL38_0 : tL38_0) (cf : CallF) (lf : LoopF) (κ : Res → Option Res) (p0 : T12) (p1 : T12) (p2 : Int) (K : Cont) : evLp Try.prog cfg (F90_m gF90 cf) (L38_0_m gL38_0 lf) 38 0 κ [true, true, false, true, false] ⟨75, Tr.of (nthD .undef [.list (.pair (.int .i64) (.pair .str (.pair (.int .i64) (.pair .str (.pair (.int .i64) (.pair (.int .i64) (.list (.pair (.int .i64) (.int .i64))))))))) p0 .no, .list (.pair (.int .i64) (.pair .str (.pair (.int .i64) (.pair .str (.pair (.int .i64) (.pair (.int .i64) (.list (.pair (.int .i64) (.int .i64))))))))) p1 .no, .undef, .undef, .undef, .int .i64 p2]) 7, Tr.of (nthD [] []) 7⟩ K = L38_0_B gF90 gL38_0 (fun x => κ ((.bool x, []) : Res)) p0 p1 p2 (fun v => K (.exit 0) ⟨75, Tr.of (nthD .undef [.list (.pair (.int .i64) (.pair .str (.pair (.int .i64) (.pair .str (.pair (.int .i64) (.pair (.int .i64) (.list (.pair (.int .i64) (.int .i64))))))))) p0 .no, .list (.pair (.int .i64) (.pair .str (.pair (.int .i64) (.pair .str (.pair (.int .i64) (.pair (.int .i64) (.list (.pair (.int .i64) (.int .i64))))))))) p1 .no, .undef, .undef, .undef, .int .i64 v]) 7, Tr.of (nthD [] []) 7⟩) := by
  kernel_rfl
theorem L38_0_ev : ∀ (k : Nat) (κ : Res → Option Res) (p0 : T12) (p1 : T12) (p2 : Int) (K : Cont), (ev Try.prog cfg k).loop 38 0 κ [true, true, false, true, false] ⟨75, Tr.of (nthD .undef [.list (.pair (.int .i64) (.pair .str (.pair (.int .i64) (.pair .str (.pair (.int .i64) (.pair (.int .i64) (.list (.pair (.int .i64) (.int .i64))))))))) p0 .no, .list (.pair (.int .i64) (.pair .str (.pair (.int .i64) (.pair .str (.pair (.int .i64) (.pair (.int .i64) (.list (.pair (.int .i64) (.int .i64))))))))) p1 .no, .undef, .undef, .undef, .int .i64 p2]) 7, Tr.of (nthD [] []) 7⟩ K = L38_0 k (fun x => κ ((.bool x, []) : Res)) p0 p1 p2 (fun v => K (.exit 0) ⟨75, Tr.of (nthD .undef [.list (.pair (.int .i64) (.pair .str (.pair (.int .i64) (.pair .str (.pair (.int .i64) (.pair (.int .i64) (.list (.pair (.int .i64) (.int .i64))))))))) p0 .no, .list (.pair (.int .i64) (.pair .str (.pair (.int .i64) (.pair .str (.pair (.int .i64) (.pair (.int .i64) (.list (.pair (.int .i64) (.int .i64))))))))) p1 .no, .undef, .undef, .undef, .int .i64 v]) 7, Tr.of (nthD [] []) 7⟩) := by
  intro k κ
  induction k with
  | zero => intro p0 p1 p2 K; rfl
  | succ k ih =>
    intro p0 p1 p2 K
    rw [ev_loop, ← F90_d k (F90_ev k), ← L38_0_d k κ ih]
    exact L38_0_k _ _ _ _ κ p0 p1 p2 K
def F38_B (gF90 : tF90) (gL38_0 : tL38_0) (a0 : T12) (a1 : T12) (κ : Bool → Option Res) : Option Res :=
  chk3 (if ((a0.length : Int) != (a1.length : Int)) = true then
    (κ false)
   else
    (gL38_0 a0 a1 (0 : Int) fun v2 =>
    κ true))
/-- lamplighter/lamplighterref03.SameOuts -/
def F38 : Nat → T12 → T12 → (Bool → Option Res) → Option Res
  | 0, _, _, _ => none
  | k + 1, a0, a1, κ => F38_B (F90 k) (L38_0 k κ) a0 a1 κ
def F38_s : List SC := [.one (.list (.pair (.int .i64) (.pair .str (.pair (.int .i64) (.pair .str (.pair (.int .i64) (.pair (.int .i64) (.list (.pair (.int .i64) (.int .i64))))))))) .no), .one (.list (.pair (.int .i64) (.pair .str (.pair (.int .i64) (.pair .str (.pair (.int .i64) (.pair (.int .i64) (.list (.pair (.int .i64) (.int .i64))))))))) .no)]
def F38_b : List (List SC) := []
def F38_m (g : T12 → T12 → (Bool → Option Res) → Option Res) (cf : CallF) : CallF := fun f args lent κ => match Nat.beq f 38 with
  | true => match okC F38_s args && okB F38_b lent with
    | true => g (listOf (.pair (.int .i64) (.pair .str (.pair (.int .i64) (.pair .str (.pair (.int .i64) (.pair (.int .i64) (.list (.pair (.int .i64) (.int .i64))))))))) (nth args 0)) (listOf (.pair (.int .i64) (.pair .str (.pair (.int .i64) (.pair .str (.pair (.int .i64) (.pair (.int .i64) (.list (.pair (.int .i64) (.int .i64))))))))) (nth args 1)) (fun x => κ ((.bool x, []) : Res))
    | false => cf f args lent κ
  | false => cf f args lent κ
theorem F38_d (k : Nat) (h : ∀ (a0 : T12) (a1 : T12) (κ : Res → Option Res), (ev Try.prog cfg k).call 38 [.list (.pair (.int .i64) (.pair .str (.pair (.int .i64) (.pair .str (.pair (.int .i64) (.pair (.int .i64) (.list (.pair (.int .i64) (.int .i64))))))))) a0 .no, .list (.pair (.int .i64) (.pair .str (.pair (.int .i64) (.pair .str (.pair (.int .i64) (.pair (.int .i64) (.list (.pair (.int .i64) (.int .i64))))))))) a1 .no] [] κ = F38 k a0 a1 (fun x => κ ((.bool x, []) : Res))) : F38_m (F38 k) (ev Try.prog cfg k).call = (ev Try.prog cfg k).call := by
  funext f args lent κ
  unfold F38_m
  split
  · rename_i hp
    split
    · rename_i hs
      rw [Bool.and_eq_true] at hs
      have e : mkC F38_s 0 args = [.list (.pair (.int .i64) (.pair .str (.pair (.int .i64) (.pair .str (.pair (.int .i64) (.pair (.int .i64) (.list (.pair (.int .i64) (.int .i64))))))))) (listOf (.pair (.int .i64) (.pair .str (.pair (.int .i64) (.pair .str (.pair (.int .i64) (.pair (.int .i64) (.list (.pair (.int .i64) (.int .i64))))))))) (nth args 0)) .no, .list (.pair (.int .i64) (.pair .str (.pair (.int .i64) (.pair .str (.pair (.int .i64) (.pair (.int .i64) (.list (.pair (.int .i64) (.int .i64))))))))) (listOf (.pair (.int .i64) (.pair .str (.pair (.int .i64) (.pair .str (.pair (.int .i64) (.pair (.int .i64) (.list (.pair (.int .i64) (.int .i64))))))))) (nth args 1)) .no] := by kernel_rfl
      have e' : mkB F38_b 0 lent = [] := by kernel_rfl
      obtain rfl := Nat.eq_of_beq_eq_true hp
      exact (h (listOf (.pair (.int .i64) (.pair .str (.pair (.int .i64) (.pair .str (.pair (.int .i64) (.pair (.int .i64) (.list (.pair (.int .i64) (.int .i64))))))))) (nth args 0)) (listOf (.pair (.int .i64) (.pair .str (.pair (.int .i64) (.pair .str (.pair (.int .i64) (.pair (.int .i64) (.list (.pair (.int .i64) (.int .i64))))))))) (nth args 1)) κ).symm.trans (cong2 (fun a l => (ev Try.prog cfg k).call 38 a l κ) (e.symm.trans (okC_eq hs.1).symm) (e'.symm.trans (okB_eq hs.2).symm))
    · rfl
  · rfl
theorem F38_k (gF90 : tF90) (gL38_0 : tL38_0) (cf : CallF) (lf : LoopF) (a0 : T12) (a1 : T12) (κ : Res → Option Res) : evFn Try.prog cfg (F90_m gF90 cf) (L38_0_m gL38_0 lf) 38 [.list (.pair (.int .i64) (.pair .str (.pair (.int .i64) (.pair .str (.pair (.int .i64) (.pair (.int .i64) (.list (.pair (.int .i64) (.int .i64))))))))) a0 .no, .list (.pair (.int .i64) (.pair .str (.pair (.int .i64) (.pair .str (.pair (.int .i64) (.pair (.int .i64) (.list (.pair (.int .i64) (.int .i64))))))))) a1 .no] [] κ = F38_B gF90 gL38_0 a0 a1 (fun x => κ ((.bool x, []) : Res)) := by
  kernel_rfl
theorem F38_ev : ∀ (k : Nat) (a0 : T12) (a1 : T12) (κ : Res → Option Res), (ev Try.prog cfg k).call 38 [.list (.pair (.int .i64) (.pair .str (.pair (.int .i64) (.pair .str (.pair (.int .i64) (.pair (.int .i64) (.list (.pair (.int .i64) (.int .i64))))))))) a0 .no, .list (.pair (.int .i64) (.pair .str (.pair (.int .i64) (.pair .str (.pair (.int .i64) (.pair (.int .i64) (.list (.pair (.int .i64) (.int .i64))))))))) a1 .no] [] κ = F38 k a0 a1 (fun x => κ ((.bool x, []) : Res)) := by
  intro k
  induction k with
  | zero => intros; rfl
  | succ k ih =>
    intro a0 a1 κ
    refine (ev_call' Try.prog cfg k 38 0 _ _ κ (by rfl)).trans ?_
    rw [← F90_d k (F90_ev k), ← L38_0_d k κ (L38_0_ev k κ)]
    exact F38_k _ _ _ _ a0 a1 κ
def L5_0_B (gF30 : tF30) (gF33 : tF33) (gL5_0 : tL5_0) (κ : Bool → Option Res) (p0 : T14) (p1 : T14) (p2 : ByteArray) (p3 : Int) (p4 : Int) (p5 : ByteArray) (p6 : Int) (p7 : ByteArray) (p8 : Int) (p9 : Int) (p10 : (List (Int × Int))) (K : T14 × ByteArray × Int → Option Res) : Option Res :=
  chk2 (if decide (p3 < (p0.length : Int)) = true then
    (chk1 (if decide (p3 < (10 : Int)) = true then
      (if (true && (decide ((0 : Int) ≤ p3) && decide (p3 < (p0.length : Int)))) = true then
       (chk1 (gF30 ((p0.getD p3.toNat ((⟨#[]⟩ : ByteArray), ((⟨#[]⟩ : ByteArray), ((0 : Int), ((0 : Int), ([] : List T2)))))).1, (((p0.getD p3.toNat ((⟨#[]⟩ : ByteArray), ((⟨#[]⟩ : ByteArray), ((0 : Int), ((0 : Int), ([] : List T2)))))).2).1, ((((p0.getD p3.toNat ((⟨#[]⟩ : ByteArray), ((⟨#[]⟩ : ByteArray), ((0 : Int), ((0 : Int), ([] : List T2)))))).2).2).1, ((((p0.getD p3.toNat ((⟨#[]⟩ : ByteArray), ((⟨#[]⟩ : ByteArray), ((0 : Int), ((0 : Int), ([] : List T2)))))).2).2).2)))) fun x1 =>
        chk4 (if (true && (decide ((0 : Int) ≤ p3) && decide (p3 < (p0.length : Int)))) = true then
          (if (true && (decide ((0 : Int) ≤ p3) && decide (p3 < (p0.length : Int)))) = true then
           (chk7 (if decide ((p1.length + ([(x1.1, (x1.2.1, ((((p0.getD p3.toNat ((⟨#[]⟩ : ByteArray), ((⟨#[]⟩ : ByteArray), ((0 : Int), ((0 : Int), ([] : List T2)))))).2).2).1, (((((p0.getD p3.toNat ((⟨#[]⟩ : ByteArray), ((⟨#[]⟩ : ByteArray), ((0 : Int), ((0 : Int), ([] : List T2)))))).2).2).2).1, x1.2.2.2.2))))] : List T13).length) * 72 ≤ 140737488355328) = true then
             (chk1 (gF33 (x1.1, (x1.2.1, ((((p0.getD p3.toNat ((⟨#[]⟩ : ByteArray), ((⟨#[]⟩ : ByteArray), ((0 : Int), ((0 : Int), ([] : List T2)))))).2).2).1, (((((p0.getD p3.toNat ((⟨#[]⟩ : ByteArray), ((⟨#[]⟩ : ByteArray), ((0 : Int), ((0 : Int), ([] : List T2)))))).2).2).2).1, x1.2.2.2.2)))) fun x2 =>
              chk1 (if decide (p2.size + x2.size ≤ 9223372036854775807) = true then chk1 (gL5_0 p0 (p1 ++ ([(x1.1, (x1.2.1, ((((p0.getD p3.toNat ((⟨#[]⟩ : ByteArray), ((⟨#[]⟩ : ByteArray), ((0 : Int), ((0 : Int), ([] : List T2)))))).2).2).1, (((((p0.getD p3.toNat ((⟨#[]⟩ : ByteArray), ((⟨#[]⟩ : ByteArray), ((0 : Int), ((0 : Int), ([] : List T2)))))).2).2).2).1, x1.2.2.2.2))))] : List T13)) (p2 ++ x2) (IntKind.wrap .i64 (p3 + (1 : Int))) p4 p5 p6 p7 p8 p9 p10 K) else none)))
            else
             (none)))
          else
           (none))
         else
          (none))))
      else
       (none))
     else
      (K (p1, (p2, p3)))))
   else
    (if false = true then
     (none)
    else
     (K (p1, (p2, p3)))))
def L5_0 : Nat → (Bool → Option Res) → T14 → T14 → ByteArray → Int → Int → ByteArray → Int → ByteArray → Int → Int → (List (Int × Int)) → (T14 × ByteArray × Int → Option Res) → Option Res
  | 0, _, _, _, _, _, _, _, _, _, _, _, _, _ => none
  | k + 1, κ, p0, p1, p2, p3, p4, p5, p6, p7, p8, p9, p10, K => L5_0_B (F30 k) (F33 k) (fun p0 p1 p2 p3 p4 p5 p6 p7 p8 p9 p10 K => L5_0 k κ p0 p1 p2 p3 p4 p5 p6 p7 p8 p9 p10 K) κ p0 p1 p2 p3 p4 p5 p6 p7 p8 p9 p10 K
def L5_0_s : Tr SC := Tr.of (nthD (.one .undef) [.one (.list (.pair .str (.pair .str (.pair (.int .i64) (.pair (.int .i64) (.list (.pair (.int .i64) (.pair (.int .i64) (.pair .str .bool)))))))) .no), .one .undef, .one .undef, .one (.ref 3 0), .one .undef, .one (.list (.pair .str (.pair .str (.pair (.int .i64) (.pair (.int .i64) (.list (.pair (.int .i64) (.pair (.int .i64) (.pair .str .bool)))))))) (.own false false)), .one .str, .one (.int .i64)]) 8
def L5_0_b : Tr (List SC) := Tr.of (nthD [] [[], [], [], [.one (.int .i64), .one .str, .one (.int .i64), .one .str, .one (.int .i64), .one (.int .i64), .one (.list (.pair (.int .i64) (.int .i64)) .no)]]) 8
def L5_0_m (g : T14 → T14 → ByteArray → Int → Int → ByteArray → Int → ByteArray → Int → Int → (List (Int × Int)) → (T14 × ByteArray × Int → Option Res) → Option Res) (lf : LoopF) : LoopF := fun p σ K => match pathEq p [true, true, false, true, false] with
  | true => match okSt 143 L5_0_s L5_0_b σ with
    | true => g (listOf (.pair .str (.pair .str (.pair (.int .i64) (.pair (.int .i64) (.list (.pair (.int .i64) (.pair (.int .i64) (.pair .str .bool)))))))) (Tr.val .undef σ.slots)) (listOf (.pair .str (.pair .str (.pair (.int .i64) (.pair (.int .i64) (.list (.pair (.int .i64) (.pair (.int .i64) (.pair .str .bool)))))))) (Tr.val .undef (Tr.rgt (Tr.lft σ.slots)))) (stringOf (Tr.val .undef (Tr.rgt (Tr.rgt σ.slots)))) (intOf (Tr.val .undef (Tr.lft (Tr.lft (Tr.lft σ.slots))))) (intOf (nth (Tr.val [] (Tr.lft (Tr.lft σ.boxes))) 0)) (stringOf (nth (Tr.val [] (Tr.lft (Tr.lft σ.boxes))) 1)) (intOf (nth (Tr.val [] (Tr.lft (Tr.lft σ.boxes))) 2)) (stringOf (nth (Tr.val [] (Tr.lft (Tr.lft σ.boxes))) 3)) (intOf (nth (Tr.val [] (Tr.lft (Tr.lft σ.boxes))) 4)) (intOf (nth (Tr.val [] (Tr.lft (Tr.lft σ.boxes))) 5)) (listOf (.pair (.int .i64) (.int .i64)) (nth (Tr.val [] (Tr.lft (Tr.lft σ.boxes))) 6)) (fun v => K (.exit 0) ⟨143, Tr.of (nthD .undef [.list (.pair .str (.pair .str (.pair (.int .i64) (.pair (.int .i64) (.list (.pair (.int .i64) (.pair (.int .i64) (.pair .str .bool)))))))) (listOf (.pair .str (.pair .str (.pair (.int .i64) (.pair (.int .i64) (.list (.pair (.int .i64) (.pair (.int .i64) (.pair .str .bool)))))))) (Tr.val .undef σ.slots)) .no, .undef, .undef, .ref 3 0, .undef, .list (.pair .str (.pair .str (.pair (.int .i64) (.pair (.int .i64) (.list (.pair (.int .i64) (.pair (.int .i64) (.pair .str .bool)))))))) v.1 (.own false false), .str v.2.1, .int .i64 v.2.2]) 8, Tr.of (nthD [] [[], [], [], [.int .i64 (intOf (nth (Tr.val [] (Tr.lft (Tr.lft σ.boxes))) 0)), .str (stringOf (nth (Tr.val [] (Tr.lft (Tr.lft σ.boxes))) 1)), .int .i64 (intOf (nth (Tr.val [] (Tr.lft (Tr.lft σ.boxes))) 2)), .str (stringOf (nth (Tr.val [] (Tr.lft (Tr.lft σ.boxes))) 3)), .int .i64 (intOf (nth (Tr.val [] (Tr.lft (Tr.lft σ.boxes))) 4)), .int .i64 (intOf (nth (Tr.val [] (Tr.lft (Tr.lft σ.boxes))) 5)), .list (.pair (.int .i64) (.int .i64)) (listOf (.pair (.int .i64) (.int .i64)) (nth (Tr.val [] (Tr.lft (Tr.lft σ.boxes))) 6)) .no]]) 8⟩)
    | false => lf p σ K
  | false => lf p σ K
theorem L5_0_d (k : Nat) (κ : Res → Option Res) (h : ∀ (p0 : T14) (p1 : T14) (p2 : ByteArray) (p3 : Int) (p4 : Int) (p5 : ByteArray) (p6 : Int) (p7 : ByteArray) (p8 : Int) (p9 : Int) (p10 : (List (Int × Int))) (K : Cont), (ev Try.prog cfg k).loop 5 0 κ [true, true, false, true, false] ⟨143, Tr.of (nthD .undef [.list (.pair .str (.pair .str (.pair (.int .i64) (.pair (.int .i64) (.list (.pair (.int .i64) (.pair (.int .i64) (.pair .str .bool)))))))) p0 .no, .undef, .undef, .ref 3 0, .undef, .list (.pair .str (.pair .str (.pair (.int .i64) (.pair (.int .i64) (.list (.pair (.int .i64) (.pair (.int .i64) (.pair .str .bool)))))))) p1 (.own false false), .str p2, .int .i64 p3]) 8, Tr.of (nthD [] [[], [], [], [.int .i64 p4, .str p5, .int .i64 p6, .str p7, .int .i64 p8, .int .i64 p9, .list (.pair (.int .i64) (.int .i64)) p10 .no]]) 8⟩ K = L5_0 k (fun x => κ ((.bool x, []) : Res)) p0 p1 p2 p3 p4 p5 p6 p7 p8 p9 p10 (fun v => K (.exit 0) ⟨143, Tr.of (nthD .undef [.list (.pair .str (.pair .str (.pair (.int .i64) (.pair (.int .i64) (.list (.pair (.int .i64) (.pair (.int .i64) (.pair .str .bool)))))))) p0 .no, .undef, .undef, .ref 3 0, .undef, .list (.pair .str (.pair .str (.pair (.int .i64) (.pair (.int .i64) (.list (.pair (.int .i64) (.pair (.int .i64) (.pair .str .bool)))))))) v.1 (.own false false), .str v.2.1, .int .i64 v.2.2]) 8, Tr.of (nthD [] [[], [], [], [.int .i64 p4, .str p5, .int .i64 p6, .str p7, .int .i64 p8, .int .i64 p9, .list (.pair (.int .i64) (.int .i64)) p10 .no]]) 8⟩)) : L5_0_m (L5_0 k (fun x => κ ((.bool x, []) : Res))) ((ev Try.prog cfg k).loop 5 0 κ) = (ev Try.prog cfg k).loop 5 0 κ := by
  funext p σ K
  unfold L5_0_m
  split
  · rename_i hp
    split
    · rename_i hs
      have e : mkSt 143 L5_0_s L5_0_b σ = ⟨143, Tr.of (nthD .undef [.list (.pair .str (.pair .str (.pair (.int .i64) (.pair (.int .i64) (.list (.pair (.int .i64) (.pair (.int .i64) (.pair .str .bool)))))))) (listOf (.pair .str (.pair .str (.pair (.int .i64) (.pair (.int .i64) (.list (.pair (.int .i64) (.pair (.int .i64) (.pair .str .bool)))))))) (Tr.val .undef σ.slots)) .no, .undef, .undef, .ref 3 0, .undef, .list (.pair .str (.pair .str (.pair (.int .i64) (.pair (.int .i64) (.list (.pair (.int .i64) (.pair (.int .i64) (.pair .str .bool)))))))) (listOf (.pair .str (.pair .str (.pair (.int .i64) (.pair (.int .i64) (.list (.pair (.int .i64) (.pair (.int .i64) (.pair .str .bool)))))))) (Tr.val .undef (Tr.rgt (Tr.lft σ.slots)))) (.own false false), .str (stringOf (Tr.val .undef (Tr.rgt (Tr.rgt σ.slots)))), .int .i64 (intOf (Tr.val .undef (Tr.lft (Tr.lft (Tr.lft σ.slots)))))]) 8, Tr.of (nthD [] [[], [], [], [.int .i64 (intOf (nth (Tr.val [] (Tr.lft (Tr.lft σ.boxes))) 0)), .str (stringOf (nth (Tr.val [] (Tr.lft (Tr.lft σ.boxes))) 1)), .int .i64 (intOf (nth (Tr.val [] (Tr.lft (Tr.lft σ.boxes))) 2)), .str (stringOf (nth (Tr.val [] (Tr.lft (Tr.lft σ.boxes))) 3)), .int .i64 (intOf (nth (Tr.val [] (Tr.lft (Tr.lft σ.boxes))) 4)), .int .i64 (intOf (nth (Tr.val [] (Tr.lft (Tr.lft σ.boxes))) 5)), .list (.pair (.int .i64) (.int .i64)) (listOf (.pair (.int .i64) (.int .i64)) (nth (Tr.val [] (Tr.lft (Tr.lft σ.boxes))) 6)) .no]]) 8⟩ := by kernel_rfl
      rw [pathEq_eq hp]
      exact (h (listOf (.pair .str (.pair .str (.pair (.int .i64) (.pair (.int .i64) (.list (.pair (.int .i64) (.pair (.int .i64) (.pair .str .bool)))))))) (Tr.val .undef σ.slots)) (listOf (.pair .str (.pair .str (.pair (.int .i64) (.pair (.int .i64) (.list (.pair (.int .i64) (.pair (.int .i64) (.pair .str .bool)))))))) (Tr.val .undef (Tr.rgt (Tr.lft σ.slots)))) (stringOf (Tr.val .undef (Tr.rgt (Tr.rgt σ.slots)))) (intOf (Tr.val .undef (Tr.lft (Tr.lft (Tr.lft σ.slots))))) (intOf (nth (Tr.val [] (Tr.lft (Tr.lft σ.boxes))) 0)) (stringOf (nth (Tr.val [] (Tr.lft (Tr.lft σ.boxes))) 1)) (intOf (nth (Tr.val [] (Tr.lft (Tr.lft σ.boxes))) 2)) (stringOf (nth (Tr.val [] (Tr.lft (Tr.lft σ.boxes))) 3)) (intOf (nth (Tr.val [] (Tr.lft (Tr.lft σ.boxes))) 4)) (intOf (nth (Tr.val [] (Tr.lft (Tr.lft σ.boxes))) 5)) (listOf (.pair (.int .i64) (.int .i64)) (nth (Tr.val [] (Tr.lft (Tr.lft σ.boxes))) 6)) K).symm.trans (congrArg (fun s => (ev Try.prog cfg k).loop 5 0 κ [true, true, false, true, false] s K) (e.symm.trans (okSt_eq hs).symm))
    · rfl
  · rfl
theorem L5_0_k (gF30 : tF30) (gF33 : tF33) (gL5_0 : tL5_0) (cf : CallF) (lf : LoopF) (κ : Res → Option Res) (p0 : T14) (p1 : T14) (p2 : ByteArray) (p3 : Int) (p4 : Int) (p5 : ByteArray) (p6 : Int) (p7 : ByteArray) (p8 : Int) (p9 : Int) (p10 : (List (Int × Int))) (K : Cont) : evLp Try.prog cfg (F30_m gF30 (F33_m gF33 cf)) (L5_0_m gL5_0 lf) 5 0 κ [true, true, false, true, false] ⟨143, Tr.of (nthD .undef [.list (.pair .str (.pair .str (.pair (.int .i64) (.pair (.int .i64) (.list (.pair (.int .i64) (.pair (.int .i64) (.pair .str .bool)))))))) p0 .no, .undef, .undef, .ref 3 0, .undef, .list (.pair .str (.pair .str (.pair (.int .i64) (.pair (.int .i64) (.list (.pair (.int .i64) (.pair (.int .i64) (.pair .str .bool)))))))) p1 (.own false false), .str p2, .int .i64 p3]) 8, Tr.of (nthD [] [[], [], [], [.int .i64 p4, .str p5, .int .i64 p6, .str p7, .int .i64 p8, .int .i64 p9, .list (.pair (.int .i64) (.int .i64)) p10 .no]]) 8⟩ K = L5_0_B gF30 gF33 gL5_0 (fun x => κ ((.bool x, []) : Res)) p0 p1 p2 p3 p4 p5 p6 p7 p8 p9 p10 (fun v => K (.exit 0) ⟨143, Tr.of (nthD .undef [.list (.pair .str (.pair .str (.pair (.int .i64) (.pair (.int .i64) (.list (.pair (.int .i64) (.pair (.int .i64) (.pair .str .bool)))))))) p0 .no, .undef, .undef, .ref 3 0, .undef, .list (.pair .str (.pair .str (.pair (.int .i64) (.pair (.int .i64) (.list (.pair (.int .i64) (.pair (.int .i64) (.pair .str .bool)))))))) v.1 (.own false false), .str v.2.1, .int .i64 v.2.2]) 8, Tr.of (nthD [] [[], [], [], [.int .i64 p4, .str p5, .int .i64 p6, .str p7, .int .i64 p8, .int .i64 p9, .list (.pair (.int .i64) (.int .i64)) p10 .no]]) 8⟩) := by
  kernel_rfl
theorem L5_0_ev : ∀ (k : Nat) (κ : Res → Option Res) (p0 : T14) (p1 : T14) (p2 : ByteArray) (p3 : Int) (p4 : Int) (p5 : ByteArray) (p6 : Int) (p7 : ByteArray) (p8 : Int) (p9 : Int) (p10 : (List (Int × Int))) (K : Cont), (ev Try.prog cfg k).loop 5 0 κ [true, true, false, true, false] ⟨143, Tr.of (nthD .undef [.list (.pair .str (.pair .str (.pair (.int .i64) (.pair (.int .i64) (.list (.pair (.int .i64) (.pair (.int .i64) (.pair .str .bool)))))))) p0 .no, .undef, .undef, .ref 3 0, .undef, .list (.pair .str (.pair .str (.pair (.int .i64) (.pair (.int .i64) (.list (.pair (.int .i64) (.pair (.int .i64) (.pair .str .bool)))))))) p1 (.own false false), .str p2, .int .i64 p3]) 8, Tr.of (nthD [] [[], [], [], [.int .i64 p4, .str p5, .int .i64 p6, .str p7, .int .i64 p8, .int .i64 p9, .list (.pair (.int .i64) (.int .i64)) p10 .no]]) 8⟩ K = L5_0 k (fun x => κ ((.bool x, []) : Res)) p0 p1 p2 p3 p4 p5 p6 p7 p8 p9 p10 (fun v => K (.exit 0) ⟨143, Tr.of (nthD .undef [.list (.pair .str (.pair .str (.pair (.int .i64) (.pair (.int .i64) (.list (.pair (.int .i64) (.pair (.int .i64) (.pair .str .bool)))))))) p0 .no, .undef, .undef, .ref 3 0, .undef, .list (.pair .str (.pair .str (.pair (.int .i64) (.pair (.int .i64) (.list (.pair (.int .i64) (.pair (.int .i64) (.pair .str .bool)))))))) v.1 (.own false false), .str v.2.1, .int .i64 v.2.2]) 8, Tr.of (nthD [] [[], [], [], [.int .i64 p4, .str p5, .int .i64 p6, .str p7, .int .i64 p8, .int .i64 p9, .list (.pair (.int .i64) (.int .i64)) p10 .no]]) 8⟩) := by
  intro k κ
  induction k with
  | zero => intro p0 p1 p2 p3 p4 p5 p6 p7 p8 p9 p10 K; rfl
  | succ k ih =>
    intro p0 p1 p2 p3 p4 p5 p6 p7 p8 p9 p10 K
    rw [ev_loop, ← F30_d k (F30_ev k), ← F33_d k (F33_ev k), ← L5_0_d k κ ih]
    exact L5_0_k _ _ _ _ _ κ p0 p1 p2 p3 p4 p5 p6 p7 p8 p9 p10 K
def F5_B (gF30 : tF30) (gF33 : tF33) (gF31 : tF31) (gF32 : tF32) (gF34 : tF34) (gF28 : tF28) (gF21 : tF21) (gF35 : tF35) (gF27 : tF27) (gF14 : tF14) (gF36 : tF36) (gF37 : tF37) (gF26 : tF26) (gF29v2 : tF29v2) (gF38 : tF38) (gL5_0 : tL5_0) (a0 : T14) (a1 : T11) (κ : Bool → Option Res) : Option Res :=
  chk2 (gL5_0 a0 ([] : List T13) (⟨#[]⟩ : ByteArray) (0 : Int) a1.1 a1.2.1 a1.2.2.1 a1.2.2.2.1 a1.2.2.2.2.1 a1.2.2.2.2.2.1 a1.2.2.2.2.2.2 fun v3 =>
   chk1 (gF31 v3.1 fun x4 =>
    chk2 (gF32 x4 fun x5 =>
     chk6 (if (true && (decide ((0 : Int) ≤ (imin (a1.2.1.size : Int) (20 : Int))) && decide ((imin (a1.2.1.size : Int) (20 : Int)) ≤ (a1.2.1.size : Int)))) = true then
       (chk1 (if (true && (decide ((0 : Int) ≤ (imin (a1.2.2.2.1.size : Int) (20 : Int))) && decide ((imin (a1.2.2.2.1.size : Int) (20 : Int)) ≤ (a1.2.2.2.1.size : Int)))) = true then
         (chk1 (if (true && (decide ((0 : Int) ≤ (imin (a1.2.2.2.2.2.2.length : Int) (5 : Int))) && decide ((imin (a1.2.2.2.2.2.2.length : Int) (5 : Int)) ≤ (a1.2.2.2.2.2.2.length : Int)))) = true then
           (chk8 (chk3 (gF34 ((bits .and .i64 a1.1 (65535 : Int)), ((a1.2.1.extract (0 : Int).toNat (imin (a1.2.1.size : Int) (20 : Int)).toNat), (a1.2.2.1, ((a1.2.2.2.1.extract (0 : Int).toNat (imin (a1.2.2.2.1.size : Int) (20 : Int)).toNat), (a1.2.2.2.2.1, (a1.2.2.2.2.2.1, ((a1.2.2.2.2.2.2.take (imin (a1.2.2.2.2.2.2.length : Int) (5 : Int)).toNat).drop (0 : Int).toNat))))))) ([] : List Int) fun x6 =>
             chk2 (gF28 x6 fun x7 =>
              chk2 (gF21 x7.1 fun x8 =>
               chk2 (gF35 x8.1 x8.2 fun x9 =>
                chk5 (gF27  fun x10 =>
                 chk1 (if x10 = true then
                   (chk1 (gF31 v3.1 fun x11 =>
                    chk5 (gF14 (IntKind.wrap .u64 ((v3.1.length : Int))) fun x12 =>
                     chk1 (if decide (x12.size + v3.2.1.size ≤ 9223372036854775807) = true then
                       (chk1 (if ((strOf x11).toList == (x12 ++ v3.2.1).toList) = true then
                         (chk1 (if (x5.2 == (0 : Int)) = true then
                           (chk1 (gF36 v3.1 x5.1 fun x13 =>
                            chk1 (if x13 = true then
                              (chk1 (gF28 x7.2 fun x14 =>
                               chk3 (gF37 ((bits .and .i64 a1.1 (65535 : Int)), ((a1.2.1.extract (0 : Int).toNat (imin (a1.2.1.size : Int) (20 : Int)).toNat), (a1.2.2.1, ((a1.2.2.2.1.extract (0 : Int).toNat (imin (a1.2.2.2.1.size : Int) (20 : Int)).toNat), (a1.2.2.2.2.1, (a1.2.2.2.2.2.1, ((a1.2.2.2.2.2.2.take (imin (a1.2.2.2.2.2.2.length : Int) (5 : Int)).toNat).drop (0 : Int).toNat))))))) fun x15 =>
                                chk2 (if ((strOf x14.1).toList == x15.toList) = true then
                                  (chk1 (gF26 x9.2.1 x9.2.2 fun x16 =>
                                   chk2 (if (x16.1 == (0 : Int)) = true then
                                     (chk1 (gF29v2 x16.2.1 x16.2.2 fun x17 =>
                                      chk2 (if (x17.1 == (0 : Int)) = true then
                                        (chk5 (gF38 ([((bits .and .i64 a1.1 (65535 : Int)), ((a1.2.1.extract (0 : Int).toNat (imin (a1.2.1.size : Int) (20 : Int)).toNat), (a1.2.2.1, ((a1.2.2.2.1.extract (0 : Int).toNat (imin (a1.2.2.2.1.size : Int) (20 : Int)).toNat), (a1.2.2.2.2.1, (a1.2.2.2.2.2.1, ((a1.2.2.2.2.2.2.take (imin (a1.2.2.2.2.2.2.length : Int) (5 : Int)).toNat).drop (0 : Int).toNat)))))))] : List T11) ([x9.1] : List T11) fun x18 =>
                                         chk1 (κ x18)))
                                       else
                                        (κ false))))
                                    else
                                     (if false = true then
                                      (none)
                                     else
                                      (κ false)))))
                                 else
                                  (if false = true then
                                   (none)
                                  else
                                   (if false = true then
                                    (none)
                                   else
                                    (κ false)))))))
                             else
                              (if false = true then
                               (none)
                              else
                               (if false = true then
                                (none)
                               else
                                (if false = true then
                                 (none)
                                else
                                 (κ false)))))))
                          else
                           (if false = true then
                            (none)
                           else
                            (if false = true then
                             (none)
                            else
                             (if false = true then
                              (none)
                             else
                              (if false = true then
                               (none)
                              else
                               (κ false)))))))
                        else
                         (if false = true then
                          (none)
                         else
                          (if false = true then
                           (none)
                          else
                           (if false = true then
                            (none)
                           else
                            (if false = true then
                             (none)
                            else
                             (if false = true then
                              (none)
                             else
                              (κ false))))))))
                      else
                       (none)))))
                  else
                   (if false = true then
                    (none)
                   else
                    (if false = true then
                     (none)
                    else
                     (if false = true then
                      (none)
                     else
                      (if false = true then
                       (none)
                      else
                       (if false = true then
                        (none)
                       else
                        (if false = true then
                         (none)
                        else
                         (κ false)))))))))))))))
          else
           (none)))
        else
         (none)))
      else
       (none)))))
/-- lamplighter/lamplighterlaw53.CodecThings -/
def F5 : Nat → T14 → T11 → (Bool → Option Res) → Option Res
  | 0, _, _, _ => none
  | k + 1, a0, a1, κ => F5_B (F30 k) (F33 k) (F31 k) (F32 k) (F34 k) (F28 k) (F21 k) (F35 k) (F27 k) (F14 k) (F36 k) (F37 k) (F26 k) (F29v2 k) (F38 k) (L5_0 k κ) a0 a1 κ
def F5_s : List SC := [.one (.list (.pair .str (.pair .str (.pair (.int .i64) (.pair (.int .i64) (.list (.pair (.int .i64) (.pair (.int .i64) (.pair .str .bool)))))))) .no), .agg [.int .i64, .str, .int .i64, .str, .int .i64, .int .i64, .list (.pair (.int .i64) (.int .i64)) .no]]
def F5_b : List (List SC) := []
def F5_m (g : T14 → T11 → (Bool → Option Res) → Option Res) (cf : CallF) : CallF := fun f args lent κ => match Nat.beq f 5 with
  | true => match okC F5_s args && okB F5_b lent with
    | true => g (listOf (.pair .str (.pair .str (.pair (.int .i64) (.pair (.int .i64) (.list (.pair (.int .i64) (.pair (.int .i64) (.pair .str .bool)))))))) (nth args 0)) ((intOf (nth (aggOf (nth args 1)) 0)), ((stringOf (nth (aggOf (nth args 1)) 1)), ((intOf (nth (aggOf (nth args 1)) 2)), ((stringOf (nth (aggOf (nth args 1)) 3)), ((intOf (nth (aggOf (nth args 1)) 4)), ((intOf (nth (aggOf (nth args 1)) 5)), (listOf (.pair (.int .i64) (.int .i64)) (nth (aggOf (nth args 1)) 6)))))))) (fun x => κ ((.bool x, []) : Res))
    | false => cf f args lent κ
  | false => cf f args lent κ
theorem F5_d (k : Nat) (h : ∀ (a0 : T14) (a1 : T11) (κ : Res → Option Res), (ev Try.prog cfg k).call 5 [.list (.pair .str (.pair .str (.pair (.int .i64) (.pair (.int .i64) (.list (.pair (.int .i64) (.pair (.int .i64) (.pair .str .bool)))))))) a0 .no, .agg [.int .i64 a1.1, .str a1.2.1, .int .i64 a1.2.2.1, .str a1.2.2.2.1, .int .i64 a1.2.2.2.2.1, .int .i64 a1.2.2.2.2.2.1, .list (.pair (.int .i64) (.int .i64)) a1.2.2.2.2.2.2 .no]] [] κ = F5 k a0 a1 (fun x => κ ((.bool x, []) : Res))) : F5_m (F5 k) (ev Try.prog cfg k).call = (ev Try.prog cfg k).call := by
  funext f args lent κ
  unfold F5_m
  split
  · rename_i hp
    split
    · rename_i hs
      rw [Bool.and_eq_true] at hs
      have e : mkC F5_s 0 args = [.list (.pair .str (.pair .str (.pair (.int .i64) (.pair (.int .i64) (.list (.pair (.int .i64) (.pair (.int .i64) (.pair .str .bool)))))))) (listOf (.pair .str (.pair .str (.pair (.int .i64) (.pair (.int .i64) (.list (.pair (.int .i64) (.pair (.int .i64) (.pair .str .bool)))))))) (nth args 0)) .no, .agg [.int .i64 (intOf (nth (aggOf (nth args 1)) 0)), .str (stringOf (nth (aggOf (nth args 1)) 1)), .int .i64 (intOf (nth (aggOf (nth args 1)) 2)), .str (stringOf (nth (aggOf (nth args 1)) 3)), .int .i64 (intOf (nth (aggOf (nth args 1)) 4)), .int .i64 (intOf (nth (aggOf (nth args 1)) 5)), .list (.pair (.int .i64) (.int .i64)) (listOf (.pair (.int .i64) (.int .i64)) (nth (aggOf (nth args 1)) 6)) .no]] := by kernel_rfl
      have e' : mkB F5_b 0 lent = [] := by kernel_rfl
      obtain rfl := Nat.eq_of_beq_eq_true hp
      exact (h (listOf (.pair .str (.pair .str (.pair (.int .i64) (.pair (.int .i64) (.list (.pair (.int .i64) (.pair (.int .i64) (.pair .str .bool)))))))) (nth args 0)) ((intOf (nth (aggOf (nth args 1)) 0)), ((stringOf (nth (aggOf (nth args 1)) 1)), ((intOf (nth (aggOf (nth args 1)) 2)), ((stringOf (nth (aggOf (nth args 1)) 3)), ((intOf (nth (aggOf (nth args 1)) 4)), ((intOf (nth (aggOf (nth args 1)) 5)), (listOf (.pair (.int .i64) (.int .i64)) (nth (aggOf (nth args 1)) 6)))))))) κ).symm.trans (cong2 (fun a l => (ev Try.prog cfg k).call 5 a l κ) (e.symm.trans (okC_eq hs.1).symm) (e'.symm.trans (okB_eq hs.2).symm))
    · rfl
  · rfl
theorem F5_k (gF30 : tF30) (gF33 : tF33) (gF31 : tF31) (gF32 : tF32) (gF34 : tF34) (gF28 : tF28) (gF21 : tF21) (gF35 : tF35) (gF27 : tF27) (gF14 : tF14) (gF36 : tF36) (gF37 : tF37) (gF26 : tF26) (gF29v2 : tF29v2) (gF38 : tF38) (gL5_0 : tL5_0) (cf : CallF) (lf : LoopF) (a0 : T14) (a1 : T11) (κ : Res → Option Res) : evFn Try.prog cfg (F30_m gF30 (F33_m gF33 (F31_m gF31 (F32_m gF32 (F34_m gF34 (F28_m gF28 (F21_m gF21 (F35_m gF35 (F27_m gF27 (F14_m gF14 (F36_m gF36 (F37_m gF37 (F26_m gF26 (F29v2_m gF29v2 (F38_m gF38 cf))))))))))))))) (L5_0_m gL5_0 lf) 5 [.list (.pair .str (.pair .str (.pair (.int .i64) (.pair (.int .i64) (.list (.pair (.int .i64) (.pair (.int .i64) (.pair .str .bool)))))))) a0 .no, .agg [.int .i64 a1.1, .str a1.2.1, .int .i64 a1.2.2.1, .str a1.2.2.2.1, .int .i64 a1.2.2.2.2.1, .int .i64 a1.2.2.2.2.2.1, .list (.pair (.int .i64) (.int .i64)) a1.2.2.2.2.2.2 .no]] [] κ = F5_B gF30 gF33 gF31 gF32 gF34 gF28 gF21 gF35 gF27 gF14 gF36 gF37 gF26 gF29v2 gF38 gL5_0 a0 a1 (fun x => κ ((.bool x, []) : Res)) := by
  kernel_rfl
theorem F5_ev : ∀ (k : Nat) (a0 : T14) (a1 : T11) (κ : Res → Option Res), (ev Try.prog cfg k).call 5 [.list (.pair .str (.pair .str (.pair (.int .i64) (.pair (.int .i64) (.list (.pair (.int .i64) (.pair (.int .i64) (.pair .str .bool)))))))) a0 .no, .agg [.int .i64 a1.1, .str a1.2.1, .int .i64 a1.2.2.1, .str a1.2.2.2.1, .int .i64 a1.2.2.2.2.1, .int .i64 a1.2.2.2.2.2.1, .list (.pair (.int .i64) (.int .i64)) a1.2.2.2.2.2.2 .no]] [] κ = F5 k a0 a1 (fun x => κ ((.bool x, []) : Res)) := by
  intro k
  induction k with
  | zero => intros; rfl
  | succ k ih =>
    intro a0 a1 κ
    refine (ev_call' Try.prog cfg k 5 0 _ _ κ (by rfl)).trans ?_
    rw [← F30_d k (F30_ev k), ← F33_d k (F33_ev k), ← F31_d k (F31_ev k), ← F32_d k (F32_ev k), ← F34_d k (F34_ev k), ← F28_d k (F28_ev k), ← F21_d k (F21_ev k), ← F35_d k (F35_ev k), ← F27_d k (F27_ev k), ← F14_d k (F14_ev k), ← F36_d k (F36_ev k), ← F37_d k (F37_ev k), ← F26_d k (F26_ev k), ← F29v2_d k (F29v2_ev k), ← F38_d k (F38_ev k), ← L5_0_d k κ (L5_0_ev k κ)]
    exact F5_k _ _ _ _ _ _ _ _ _ _ _ _ _ _ _ _ _ _ a0 a1 κ
end Go.Proofs.Ytkfphlmbdppbfaa.CoT
