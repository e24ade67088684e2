/-
  No cell of these rows narrows 'for every input' (looked for: loops, veiled, ifaces, maps, wideKeys, modest, calm, conditions, laid).
  DERIVED. THE GIVEN ROWS OF THIS SEAT. 3 by the template 'for every input the law returns true; each argument reads behind the call as it read before'; 0 by the template 'total and deterministic' (their statements: YtfdgjpeanffknaaTotals.lean).
  GIVEN WITH THE SEED: the statements are not yours to turn. If you find one false, say at which input.
  Laid BY PROGRAM, IN A SANDBOX (cutbox-rows.mjs): the forced cells as the released guide's own fill.sh prints them over the translation aeaddc07953a0541… (all of the seat's roots in one cut). By AI agents, Wed Nov 11 2026. No macro, syntax, notation, axiom, sorry.
-/
import Derived.Test.YtfdgjpeanffknaaChecked
import GoSem.Claim
import GoSem.ClaimJoined
import GoSem.ClaimMapViews
import Derived.JoinedTies
import Derived.KernelRfl
namespace Go.Proofs.Ytfdgjpeanffknaa
/- THE CELL 'sum', in the pinned program and in every row, IS THE sha256 OF THE DUMP (.gsa) THAT YtfdgjpeanffknaaProg.lean LOADS. Nothing in Lean hashes anything: it is a label: what it is worth is what the hold of that sum in a sandbox is worth. -/
noncomputable def Try.pinned : Pinned := { name := "ytfdgjpeanffknaa", sum := "aeaddc07953a0541f27772d477675e066a53166f9ceb0e842613042910a9d6a1", checked := Try.checked }
namespace Rows
def none {H : Type} : Left H := { results := [], args := [] }

/-- 'lamplighterlaw18.CheckMade': WHATEVER THE INPUT: true; the input reads as it did. -/
def checkMadeSpec : ChangeSpec := { name := "checkMade", fn := fun _ => fun
  | [d] => { results := [.lit (.bool true)], args := [d] }
  | _ => none }
def checkMadeRow : OpenClaim := { program := "ytfdgjpeanffknaa", sum := "aeaddc07953a0541f27772d477675e066a53166f9ceb0e842613042910a9d6a1", func := "lamplighter/lamplighterlaw18.CheckMade", spec := "checkMade", unfollowed := true, recurses := true, apart := false }
def CheckMadeSaid : Prop := checkMadeRow.holds Try.pinned (OpenSpec.ofChange checkMadeSpec)

/-- ITS FALSE NEIGHBOUR: 'it returns false'. Refute it at one input. -/
def checkMadeWrong : ChangeSpec := { name := "checkMade", fn := fun _ => fun
  | [d] => { results := [.lit (.bool false)], args := [d] }
  | _ => none }
def CheckMadeWrongFalsely : Prop := checkMadeRow.holds Try.pinned (OpenSpec.ofChange checkMadeWrong)

/-- 'lamplighterlaw18.CheckBad': WHATEVER THE INPUT: true; the input reads as it did. -/
def checkBadSpec : ChangeSpec := { name := "checkBad", fn := fun _ => fun
  | [d1, d2, d3] => { results := [.lit (.bool true)], args := [d1, d2, d3] }
  | _ => none }
def checkBadRow : OpenClaim := { program := "ytfdgjpeanffknaa", sum := "aeaddc07953a0541f27772d477675e066a53166f9ceb0e842613042910a9d6a1", func := "lamplighter/lamplighterlaw18.CheckBad", spec := "checkBad", unfollowed := true, recurses := true, apart := false }
def CheckBadSaid : Prop := checkBadRow.holds Try.pinned (OpenSpec.ofChange checkBadSpec)

/-- ITS FALSE NEIGHBOUR: 'it returns false'. Refute it at one input. -/
def checkBadWrong : ChangeSpec := { name := "checkBad", fn := fun _ => fun
  | [d1, d2, d3] => { results := [.lit (.bool false)], args := [d1, d2, d3] }
  | _ => none }
def CheckBadWrongFalsely : Prop := checkBadRow.holds Try.pinned (OpenSpec.ofChange checkBadWrong)

/-- 'lamplighterlaw18.CheckPreds': WHATEVER THE INPUT: true; the input reads as it did. -/
def checkPredsSpec : ChangeSpec := { name := "checkPreds", fn := fun _ => fun
  | [d1, d2] => { results := [.lit (.bool true)], args := [d1, d2] }
  | _ => none }
def checkPredsRow : OpenClaim := { program := "ytfdgjpeanffknaa", sum := "aeaddc07953a0541f27772d477675e066a53166f9ceb0e842613042910a9d6a1", func := "lamplighter/lamplighterlaw18.CheckPreds", spec := "checkPreds", unfollowed := true, recurses := true, apart := false }
def CheckPredsSaid : Prop := checkPredsRow.holds Try.pinned (OpenSpec.ofChange checkPredsSpec)

/-- ITS FALSE NEIGHBOUR: 'it returns false'. Refute it at one input. -/
def checkPredsWrong : ChangeSpec := { name := "checkPreds", fn := fun _ => fun
  | [d1, d2] => { results := [.lit (.bool false)], args := [d1, d2] }
  | _ => none }
def CheckPredsWrongFalsely : Prop := checkPredsRow.holds Try.pinned (OpenSpec.ofChange checkPredsWrong)

/- THE SECOND FORM. 'bulk': how many values and letters a reading holds, each counted each time it is reached (what is shared counts as often as it is met; a slice's spare places count too). A statement '..UptoSaid' is the law's where the arguments, and the package variables that the reading takes, are together of bulk at most 1048576: NARROWER than '..Said'. Prove '..Said' where nothing that the law and all that it calls make is longer than what came in: it says more and counts as full. Else prove '..UptoSaid'. A law counts once. -/
mutual
def uptoBulk {H : Type} : DataW H → Nat
  | .lit (.string bytes) => bytes.length + 1
  | .lit _ => 1
  | .nil => 1
  | .ptr d => uptoBulk d + 1
  | .slice elems spare => uptoBulkAll elems + uptoBulkAll spare + 1
  | .agg parts => uptoBulkAll parts + 1
  | .iface _ d => uptoBulk d + 1
  | .map entries => uptoBulkEntries entries + 1
  | .held _ => 1
def uptoBulkAll {H : Type} : List (DataW H) → Nat
  | [] => 0
  | d :: r => uptoBulk d + uptoBulkAll r
def uptoBulkEntries {H : Type} : List (Lit × DataW H) → Nat
  | [] => 0
  | x :: r => uptoBulkEntry x + uptoBulkEntries r
def uptoBulkEntry {H : Type} : Lit × DataW H → Nat
  | (.string bytes, d) => bytes.length + uptoBulk d + 1
  | (_, d) => uptoBulk d + 1
 end
def uptoSmall : (H : Type) → List (DataW H) → Bool := fun _ ds => decide (uptoBulkAll ds ≤ 1048576)
def OpenSpec.upto (s : _root_.Go.ChangeSpec) : _root_.Go.OpenSpec := { _root_.Go.OpenSpec.ofChange s with cond := some uptoSmall }

/-- 'lamplighterlaw18.CheckMade', WHERE WHAT IT READS IS OF BULK AT MOST 1048576: true; the input reads as it did. -/
def checkMadeUptoRow : OpenClaim := { program := "ytfdgjpeanffknaa", sum := "aeaddc07953a0541f27772d477675e066a53166f9ceb0e842613042910a9d6a1", func := "lamplighter/lamplighterlaw18.CheckMade", spec := "checkMade", unfollowed := true, recurses := true, apart := false, narrowed := true }
def CheckMadeUptoSaid : Prop := checkMadeUptoRow.holds Try.pinned (OpenSpec.upto checkMadeSpec)

/-- 'lamplighterlaw18.CheckBad', WHERE WHAT IT READS IS OF BULK AT MOST 1048576: true; the input reads as it did. -/
def checkBadUptoRow : OpenClaim := { program := "ytfdgjpeanffknaa", sum := "aeaddc07953a0541f27772d477675e066a53166f9ceb0e842613042910a9d6a1", func := "lamplighter/lamplighterlaw18.CheckBad", spec := "checkBad", unfollowed := true, recurses := true, apart := false, narrowed := true }
def CheckBadUptoSaid : Prop := checkBadUptoRow.holds Try.pinned (OpenSpec.upto checkBadSpec)

/-- 'lamplighterlaw18.CheckPreds', WHERE WHAT IT READS IS OF BULK AT MOST 1048576: true; the input reads as it did. -/
def checkPredsUptoRow : OpenClaim := { program := "ytfdgjpeanffknaa", sum := "aeaddc07953a0541f27772d477675e066a53166f9ceb0e842613042910a9d6a1", func := "lamplighter/lamplighterlaw18.CheckPreds", spec := "checkPreds", unfollowed := true, recurses := true, apart := false, narrowed := true }
def CheckPredsUptoSaid : Prop := checkPredsUptoRow.holds Try.pinned (OpenSpec.upto checkPredsSpec)

end Rows
end Go.Proofs.Ytfdgjpeanffknaa
