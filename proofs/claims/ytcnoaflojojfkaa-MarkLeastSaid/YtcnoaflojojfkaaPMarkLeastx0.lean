-- PRINTED BY print.sh 35421559b90ae4d0a3588c463048766b98c2df88dd9212a6774a882060cdf62d: not written by this session
import Derived.Test.YtcnoaflojojfkaaProg
import Derived.Below
import Derived.Deep.Draws
import Derived.Deep.AppendLies
import Derived.Maps.AppendAt
import Derived.OwnWalk
import Derived.Laws.BytesArg
import Derived.Laws.MakeOwn
import Derived.Laws.OwnMore
import Derived.Deep.OwnRows
import Derived.Tactics
import Derived.Lib.ConvBytes
import Derived.Laws.Slices
import Derived.WalkKit
import Derived.KernelRfl
import Derived.RowKit3
import Derived.Deep.LoopGhost
import Derived.Deep.QuietTactic
import Derived.BigQuiet
import Derived.WideLaws
import Derived.Deep.DeepCutAuto
import Derived.Deep.CutBlock
import Derived.Deep.RegionHeld3
import Derived.Laws.Rows
import Derived.Lib.AppendStr
import Derived.ArgAppend
import Derived.Laws.IdiomCopy
import Derived.OrdersHeld
import Derived.Laws.BitsLemmas
import Derived.RowKit
import Derived.Test.YtcnoaflojojfkaaWWords
import Derived.Test.YtcnoaflojojfkaaWLast
import Derived.Test.YtcnoaflojojfkaaWTab
import Derived.Test.YtcnoaflojojfkaaWFour
import Derived.Test.YtcnoaflojojfkaaWQPut
import Derived.Test.YtcnoaflojojfkaaWApart
import Derived.Test.YtcnoaflojojfkaaWArr
import Derived.Test.YtcnoaflojojfkaaWZeros
import Derived.Test.YtcnoaflojojfkaaWFoot
import Derived.Test.YtcnoaflojojfkaaWKept
import Derived.Test.YtcnoaflojojfkaaWShare
import Derived.Test.YtcnoaflojojfkaaWN
import Derived.Test.YtcnoaflojojfkaaWFootNe
import Derived.Test.YtcnoaflojojfkaaWAt
import Derived.Test.YtcnoaflojojfkaaWEqStruct
import Derived.Test.YtcnoaflojojfkaaWRepsOne
import Derived.Test.YtcnoaflojojfkaaWInv
import Derived.Test.YtcnoaflojojfkaaWInvWords
import Derived.Test.YtcnoaflojojfkaaWGuard
import Derived.Test.YtcnoaflojojfkaaWNEv
import Derived.Test.YtcnoaflojojfkaaWMore
namespace Go.Proofs.Ytcnoaflojojfkaa.PMarkLeast
open Go.RowKit Go.Proofs.YtcnoaflojojfkaaW.PrintWords Go.Proofs.YtcnoaflojojfkaaW.PrintLast Go.Proofs.YtcnoaflojojfkaaW.PrintMore
attribute [local go_sem] max2_int min2_int max_two min_two max_three min_three max_four min_four   -- for this text's walks alone
set_option linter.unusedVariables false
set_option linter.unusedSimpArgs false



def errW : Option Int → Value
  | none => .nilIface
  | some c => .iface 0 (.int .i64 c)
theorem errW_none : errW none = .nilIface := rfl
theorem errW_some (c : Int) : errW (some c) = .iface 0 (.int .i64 c) := rfl

theorem info24 : (Try.prog.info? 24).map (fun i => (i.zero, i.size, i.bytes)) = some (some (.agg #[(.int .i64 0)]), 1, 8) := by kernel_rfl
-- the values' own types
/-! #### struct type 24 -/
structure S24 where
  f0 : Int
def z24 : S24 := ⟨(0 : Int)⟩
def k24 : Kd S24 := Kd.iso (Kd.int .i64) (fun x : S24 => x.f0)
theorem k24_open {w : World} {x : S24} {cs : List Value} (h : k24.K w x cs) : cs = [.int .i64 x.f0] := by
  obtain rfl := h
  exact rfl
theorem k24_openM {w : World} {base : Nat} {ok : Nat → Prop} {x : S24} {cs : List Value} (h : k24.M w base ok x cs) : cs = [.int .i64 x.f0] := by
  obtain rfl := h
  exact rfl
theorem k24_mk (w : World) (x : S24)  : k24.K w x [.int .i64 x.f0] := rfl
theorem k24_mkM (w : World) (base : Nat) (ok : Nat → Prop) (x : S24)  : k24.M w base ok x [.int .i64 x.f0] := rfl
def rd_T24 (xs : List S24) (i : Int) : S24 := xs.getD i.toNat z24
theorem at_T24 {w : World} {A : Option Addr} {n : Nat} {xs : List S24} (h : Kd.C k24 w A n xs) (i : Int) (h0 : 0 ≤ i) (h1 : i < n) : ∃ ad , A = some ad ∧ w.cell? (ad.add i.toNat) = some (.int .i64 (rd_T24 xs i).f0) := by
  obtain ⟨ad, c, e, _, hK, hc0⟩ := Kd.C_get h z24 i h0 h1
  have hc : ∀ j u, c[j]? = some u → w.cell? (ad.add (i.toNat * 1 + j)) = some u := hc0
  obtain rfl := k24_open hK
  exact ⟨ad, e, by have hq := hc 0 _ rfl; rwa [Nat.mul_one, Nat.add_zero] at hq⟩

end Go.Proofs.Ytcnoaflojojfkaa.PMarkLeast
