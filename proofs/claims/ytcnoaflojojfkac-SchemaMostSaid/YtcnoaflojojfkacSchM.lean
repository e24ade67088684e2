/- SchemaMost, behind its loop and ahead of it: what the machine of values comes to. No condition. -/
import Derived.Test.YtcnoaflojojfkacSchMA
namespace Go.Proofs.Ytcnoaflojojfkac.SchM
open Go Go.Proofs.Ytcnoaflojojfkac.Vm
set_option linter.unusedVariables false
set_option maxRecDepth 100000
/-- what the law does once it has its types, and knows what is wrong with them -/
def T5 (k : Nat) (κ : Bool → Option Res) (p0 : List (ByteArray × (List (ByteArray × Int)))) (want : Int) : Option Res :=
    (F19 k p0 (fun x15 =>
     F23v1 k (⟨#[65]⟩ : ByteArray) fun x16 =>
     F24 k (⟨#[65]⟩ : ByteArray) (⟨#[120]⟩ : ByteArray) fun x17 =>
     F15 k  fun x18 =>
     if x18 = true then
      (if (x15 == want) = true then
       (if (!x16.2) = true then
        (if (x17.1 == (-1 : Int)) = true then
         (F22 k  fun x19 =>
         if (x19 == (0 : Int)) = true then
          (F21 k  fun x20 =>
          κ ((x20.length : Int) == (0 : Int)))
         else
          (κ false))
        else
         (κ false))
       else
        (κ false))
      else
       (κ false))
     else
      (κ false)) (fun x21 =>
     F23v1 k (⟨#[65]⟩ : ByteArray) fun x22 =>
     F24 k (⟨#[65]⟩ : ByteArray) (⟨#[120]⟩ : ByteArray) fun x23 =>
     F15 k  fun x24 =>
     if x24 = true then
      (if (x21.1 == want) = true then
       (if (!x22.2) = true then
        (if (x23.1 == (-1 : Int)) = true then
         (F22 k  fun x25 =>
         if (x25 == (0 : Int)) = true then
          (F21 k  fun x26 =>
          κ ((x26.length : Int) == (0 : Int)))
         else
          (κ false))
        else
         (κ false))
       else
        (κ false))
      else
       (κ false))
     else
      (κ false)))
/-- the machine behind the loop -/
noncomputable def post (k : Nat) (κ : Res → Option Res) (lf : LoopF) (p0 : List (ByteArray × (List (ByteArray × Int)))) (p1 p2 p3 : Int) : Option Res :=
  match Try.prog.funcs[5]? with
  | none => none
  | some fn => match fn.body with
    | none => none
    | some c => match codeAt c [true, true, true, true, true] with
      | some r => evC cfg 5 (ev Try.prog cfg k).call lf (kRet fn (cfg.own 5) cfg.tab 0 κ) r [true, true, true, true, true] ⟨104, [.undef, .undef, .undef, .undef, .undef, .list (.pair .str (.list (.pair .str (.int .i64)))) p0 (.own false false), .int .i64 p1, .int .i64 p2, .int .i64 p3, .undef, .undef, .undef, .undef, .undef, .undef, .undef, .undef, .undef, .undef, .undef, .undef, .undef, .undef, .undef, .undef, .undef, .undef, .undef, .undef, .undef, .undef, .undef, .undef, .undef, .undef, .undef, .undef, .undef, .undef, .undef, .undef, .undef, .undef, .undef, .undef, .undef, .undef, .undef, .undef, .undef, .undef, .undef, .undef, .undef, .undef, .undef, .undef, .undef, .undef, .undef, .undef, .undef, .undef, .undef, .undef, .undef, .undef, .undef, .undef, .undef, .undef, .undef, .undef, .undef, .undef, .undef, .undef, .undef, .undef, .undef, .undef, .undef, .undef, .undef, .undef, .undef, .undef, .undef, .undef, .undef, .undef, .undef, .undef, .undef, .undef, .undef, .undef, .undef, .undef, .undef, .undef, .undef, .undef, .undef], [[], [], [], [], [], [], [], [], [], [], [], [], [], [], [], [], [], [], [], [], [], [], [], [], [], [], [], [], [], [], [], [], [], [], [], [], [], [], [], [], [], [], [], [], [], [], [], [], [], [], [], [], [], [], [], [], [], [], [], [], [], [], [], [], [], [], [], [], [], [], [], [], [], [], [], [], [], [], [], [], [], [], [], [], [], [], [], [], [], [], [], [], [], [], [], [], [], [], [], [], [], [], [], []]⟩ (kEnd (kRet fn (cfg.own 5) cfg.tab 0 κ))
      | none => none
theorem post9 (k : Nat) (κ : Res → Option Res) (lf : LoopF) (p0 : List (ByteArray × (List (ByteArray × Int)))) (p1 p3 : Int) : post k κ lf p0 p1 9 p3 = if decide (p1 > (16 : Int)) = true then T5 k (fun x => κ ((.bool x, []) : Res)) p0 5 else T5 k (fun x => κ ((.bool x, []) : Res)) p0 1 := by
  unfold post
  rw [← F19_d k (F19_ev k), ← F23v1_d k (F23v1_ev k), ← F24_d k (F24_ev k), ← F15_d k (F15_ev k), ← F22_d k (F22_ev k), ← F21_d k (F21_ev k)]
  kernel_rfl
theorem post8 (k : Nat) (κ : Res → Option Res) (lf : LoopF) (p0 : List (ByteArray × (List (ByteArray × Int)))) (p1 p3 : Int) : post k κ lf p0 p1 8 p3 = if decide (p1 > (16 : Int)) = true then T5 k (fun x => κ ((.bool x, []) : Res)) p0 5 else T5 k (fun x => κ ((.bool x, []) : Res)) p0 0 := by
  unfold post
  rw [← F19_d k (F19_ev k), ← F23v1_d k (F23v1_ev k), ← F24_d k (F24_ev k), ← F15_d k (F15_ev k), ← F22_d k (F22_ev k), ← F21_d k (F21_ev k)]
  kernel_rfl
theorem post7 (k : Nat) (κ : Res → Option Res) (lf : LoopF) (p0 : List (ByteArray × (List (ByteArray × Int)))) (p1 p3 : Int) : post k κ lf p0 p1 7 p3 = if decide (p1 > (16 : Int)) = true then T5 k (fun x => κ ((.bool x, []) : Res)) p0 5 else T5 k (fun x => κ ((.bool x, []) : Res)) p0 0 := by
  unfold post
  rw [← F19_d k (F19_ev k), ← F23v1_d k (F23v1_ev k), ← F24_d k (F24_ev k), ← F15_d k (F15_ev k), ← F22_d k (F22_ev k), ← F21_d k (F21_ev k)]
  kernel_rfl
theorem F5_ev (k : Nat) (a0 a1 : Int) (κ : Res → Option Res) : (ev Try.prog cfg (k + 1)).call 5 [.int .i64 a0, .int .i64 a1] [] κ =
    if decide ((bits .and .i64 a1 (2 : Int)) > (0 : Int)) = true then
      L5_0 k (fun x => κ ((.bool x, []) : Res)) [] (IntKind.wrap .i64 ((14 : Int) + (bits .and .i64 a0 (3 : Int)))) (9 : Int) (0 : Int) fun v => post k κ (L5_0_m k κ ((ev Try.prog cfg k).loop 5 0 κ)) v.1 (IntKind.wrap .i64 ((14 : Int) + (bits .and .i64 a0 (3 : Int)))) 9 v.2
    else L5_0 k (fun x => κ ((.bool x, []) : Res)) [] (IntKind.wrap .i64 ((14 : Int) + (bits .and .i64 a0 (3 : Int)))) (IntKind.wrap .i64 ((7 : Int) + (bits .and .i64 a1 (1 : Int)))) (0 : Int) fun v => post k κ (L5_0_m k κ ((ev Try.prog cfg k).loop 5 0 κ)) v.1 (IntKind.wrap .i64 ((14 : Int) + (bits .and .i64 a0 (3 : Int)))) (IntKind.wrap .i64 ((7 : Int) + (bits .and .i64 a1 (1 : Int)))) v.2 := by
  refine (ev_call' Try.prog cfg k 5 0 _ _ κ (by rfl)).trans ?_
  conv =>
    lhs
    rw [← L5_0_d k κ (L5_0_ev k κ)]
  kernel_rfl
end Go.Proofs.Ytcnoaflojojfkac.SchM
