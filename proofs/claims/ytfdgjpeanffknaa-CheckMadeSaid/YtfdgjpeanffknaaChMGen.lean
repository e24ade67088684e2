/- What picks make: predicates that come to their kinds. No condition. -/
import Derived.Test.YtfdgjpeanffknaaChM
import Derived.Test.YtfdgjpeanffknaaBits
namespace Go.Proofs.Ytfdgjpeanffknaa.ChM
open Go Go.Proofs.Ytfdgjpeanffknaa.Vm
set_option linter.unusedVariables false
set_option linter.unusedSimpArgs false
set_option maxRecDepth 100000
abbrev zB : ByteArray := ⟨#[]⟩
abbrev zV : T2 := (0, (0, (⟨#[]⟩, false)))
abbrev nop (op : Int) : T7 := (op, (((0 : Int), ((0 : Int), ((⟨#[]⟩ : ByteArray), false))), ((⟨#[]⟩ : ByteArray), (⟨#[]⟩ : ByteArray))))
abbrev ncon (v : T2) : T7 := (1, (v, ((⟨#[]⟩ : ByteArray), (⟨#[]⟩ : ByteArray))))
abbrev nfld (v f : ByteArray) : T7 := (2, (((0 : Int), ((0 : Int), ((⟨#[]⟩ : ByteArray), false))), (v, f)))
def isVar (v : ByteArray) : Prop := v = ⟨#[97]⟩ ∨ v = ⟨#[98]⟩ ∨ v = ⟨#[99]⟩ ∨ v = ⟨#[101]⟩
/-- what the picks make: a predicate that comes to a kind -/
inductive Gen (V : ByteArray → Prop) : List T7 → Int → Prop where
  | num (n : Int) (h : n ≠ -9223372036854775808) : Gen V [ncon (1, (n, (⟨#[]⟩, false)))] 1
  | tru (b : Bool) : Gen V [ncon (3, (0, (⟨#[]⟩, b)))] 3
  | txt (s : ByteArray) (h : s = ⟨#[117]⟩ ∨ s = ⟨#[118]⟩ ∨ s = ⟨#[105, 116, 39, 115]⟩) : Gen V [ncon (2, (0, (s, false)))] 2
  | fx (v : ByteArray) (h : V v) : Gen V [nfld v ⟨#[120]⟩] 1
  | fs (v : ByteArray) (h : V v) : Gen V [nfld v ⟨#[115]⟩] 2
  | neg {X : List T7} (h : Gen V X 1) : Gen V (X ++ [nop 3]) 1
  | arith {X Y : List T7} (op : Int) (ho : op = 4 ∨ op = 5 ∨ op = 6) (h : Gen V X 1) (h' : Gen V Y 1) : Gen V ((X ++ Y) ++ [nop op]) 1
  | cmp {X Y : List T7} (op c : Int) (ho : op = 7 ∨ op = 8 ∨ op = 9 ∨ op = 10 ∨ op = 11 ∨ op = 12) (hc : c = 1 ∨ c = 2) (h : Gen V X c) (h' : Gen V Y c) : Gen V ((X ++ Y) ++ [nop op]) 3
  | not {X : List T7} (h : Gen V X 3) : Gen V (X ++ [nop 13]) 3
  | log {X Y : List T7} (op : Int) (ho : op = 14 ∨ op = 15) (h : Gen V X 3) (h' : Gen V Y 3) : Gen V ((X ++ Y) ++ [nop op]) 3
theorem wrapI {x : Int} (h0 : -9223372036854775808 ≤ x) (h1 : x ≤ 9223372036854775807) : IntKind.wrap .i64 x = x := by
  rw [IntKind.wrap_i64]; omega
theorem wrn {n : Int} (h1 : -1000000 ≤ n) (h2 : n ≤ 1000000) : IntKind.wrap .i64 n = n := wrapI (by omega) (by omega)
theorem p4 : ((2 : Int) ^ min ((4 : Int)).toNat (IntKind.bits .i64)) = 16 := by kernel_rfl
theorem p6 : ((2 : Int) ^ min ((6 : Int)).toNat (IntKind.bits .i64)) = 64 := by kernel_rfl
theorem p8 : ((2 : Int) ^ min ((8 : Int)).toNat (IntKind.bits .i64)) = 256 := by kernel_rfl
theorem fd {x : Int} (m : Int) (hm : 0 < m) : Int.fdiv x m = x / m := Int.fdiv_eq_ediv_of_nonneg _ (by omega)
theorem tm {x : Int} (hx : 0 ≤ x) (m : Int) : Int.tmod x m = x % m := Int.tmod_eq_emod_of_nonneg hx
end Go.Proofs.Ytfdgjpeanffknaa.ChM
