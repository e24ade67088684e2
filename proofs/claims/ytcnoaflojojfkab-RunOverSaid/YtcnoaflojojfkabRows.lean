/-
  No cell of these rows narrows 'for every input' (looked for: loops, veiled, ifaces, maps, wideKeys, modest, calm, conditions, laid).
  DERIVED. THE GIVEN ROWS OF THIS SEAT. 12 by the template 'for every input the law returns true; each argument reads behind the call as it read before'; 0 by the template 'total and deterministic' (their statements: YtcnoaflojojfkabTotals.lean).
  GIVEN WITH THE SEED: the statements are not yours to turn. If you find one false, say at which input.
  Laid BY PROGRAM, IN A SANDBOX (cutbox-rows.mjs): the forced cells as the released guide's own fill.sh prints them over the translation b808a557e65cc8aa… (all of the seat's roots in one cut). By AI agents, Wed Nov 11 2026. No macro, syntax, notation, axiom, sorry.
-/
import Derived.Test.YtcnoaflojojfkabChecked
import GoSem.Claim
import GoSem.ClaimJoined
import GoSem.ClaimMapViews
import Derived.JoinedTies
import Derived.KernelRfl
namespace Go.Proofs.Ytcnoaflojojfkab
/- THE CELL 'sum', in the pinned program and in every row, IS THE sha256 OF THE DUMP (.gsa) THAT YtcnoaflojojfkabProg.lean LOADS. Nothing in Lean hashes anything: it is a label: what it is worth is what the hold of that sum in a sandbox is worth. -/
noncomputable def Try.pinned : Pinned := { name := "ytcnoaflojojfkab", sum := "b808a557e65cc8aad89d5fb6e0f1deb2ed70b0e0be1ab4fc4711cb6fcfaf9153", checked := Try.checked }
namespace Rows
def none {H : Type} : Left H := { results := [], args := [] }

/-- 'lamplighterlaw01.NumProducts': WHATEVER THE INPUT: true; the input reads as it did. -/
def numProductsSpec : ChangeSpec := { name := "numProducts", fn := fun _ => fun
  | [d1, d2] => { results := [.lit (.bool true)], args := [d1, d2] }
  | _ => none }
def numProductsRow : OpenClaim := { program := "ytcnoaflojojfkab", sum := "b808a557e65cc8aad89d5fb6e0f1deb2ed70b0e0be1ab4fc4711cb6fcfaf9153", func := "lamplighter/lamplighterlaw01.NumProducts", spec := "numProducts", apart := false }
def NumProductsSaid : Prop := numProductsRow.holds Try.pinned (OpenSpec.ofChange numProductsSpec)

/-- ITS FALSE NEIGHBOUR: 'it returns false'. Refute it at one input. -/
def numProductsWrong : ChangeSpec := { name := "numProducts", fn := fun _ => fun
  | [d1, d2] => { results := [.lit (.bool false)], args := [d1, d2] }
  | _ => none }
def NumProductsWrongFalsely : Prop := numProductsRow.holds Try.pinned (OpenSpec.ofChange numProductsWrong)

/-- 'lamplighterlaw01.NumTexts': WHATEVER THE INPUT: true; the input reads as it did. -/
def numTextsSpec : ChangeSpec := { name := "numTexts", fn := fun _ => fun
  | [d1, d2] => { results := [.lit (.bool true)], args := [d1, d2] }
  | _ => none }
def numTextsRow : OpenClaim := { program := "ytcnoaflojojfkab", sum := "b808a557e65cc8aad89d5fb6e0f1deb2ed70b0e0be1ab4fc4711cb6fcfaf9153", func := "lamplighter/lamplighterlaw01.NumTexts", spec := "numTexts", recurses := true, apart := false }
def NumTextsSaid : Prop := numTextsRow.holds Try.pinned (OpenSpec.ofChange numTextsSpec)

/-- ITS FALSE NEIGHBOUR: 'it returns false'. Refute it at one input. -/
def numTextsWrong : ChangeSpec := { name := "numTexts", fn := fun _ => fun
  | [d1, d2] => { results := [.lit (.bool false)], args := [d1, d2] }
  | _ => none }
def NumTextsWrongFalsely : Prop := numTextsRow.holds Try.pinned (OpenSpec.ofChange numTextsWrong)

/-- 'lamplighterlaw01.NumTimes': WHATEVER THE INPUT: true; the input reads as it did. -/
def numTimesSpec : ChangeSpec := { name := "numTimes", fn := fun _ => fun
  | [d1, d2, d3] => { results := [.lit (.bool true)], args := [d1, d2, d3] }
  | _ => none }
def numTimesRow : OpenClaim := { program := "ytcnoaflojojfkab", sum := "b808a557e65cc8aad89d5fb6e0f1deb2ed70b0e0be1ab4fc4711cb6fcfaf9153", func := "lamplighter/lamplighterlaw01.NumTimes", spec := "numTimes", apart := false }
def NumTimesSaid : Prop := numTimesRow.holds Try.pinned (OpenSpec.ofChange numTimesSpec)

/-- ITS FALSE NEIGHBOUR: 'it returns false'. Refute it at one input. -/
def numTimesWrong : ChangeSpec := { name := "numTimes", fn := fun _ => fun
  | [d1, d2, d3] => { results := [.lit (.bool false)], args := [d1, d2, d3] }
  | _ => none }
def NumTimesWrongFalsely : Prop := numTimesRow.holds Try.pinned (OpenSpec.ofChange numTimesWrong)

/-- 'lamplighterlaw01.NumSums': WHATEVER THE INPUT: true; the input reads as it did. -/
def numSumsSpec : ChangeSpec := { name := "numSums", fn := fun _ => fun
  | [d1, d2] => { results := [.lit (.bool true)], args := [d1, d2] }
  | _ => none }
def numSumsRow : OpenClaim := { program := "ytcnoaflojojfkab", sum := "b808a557e65cc8aad89d5fb6e0f1deb2ed70b0e0be1ab4fc4711cb6fcfaf9153", func := "lamplighter/lamplighterlaw01.NumSums", spec := "numSums", apart := false }
def NumSumsSaid : Prop := numSumsRow.holds Try.pinned (OpenSpec.ofChange numSumsSpec)

/-- ITS FALSE NEIGHBOUR: 'it returns false'. Refute it at one input. -/
def numSumsWrong : ChangeSpec := { name := "numSums", fn := fun _ => fun
  | [d1, d2] => { results := [.lit (.bool false)], args := [d1, d2] }
  | _ => none }
def NumSumsWrongFalsely : Prop := numSumsRow.holds Try.pinned (OpenSpec.ofChange numSumsWrong)

/-- 'lamplighterlaw08.SeqsParts': WHATEVER THE INPUT: true; the input reads as it did. -/
def seqsPartsSpec : ChangeSpec := { name := "seqsParts", fn := fun _ => fun
  | [d1, d2, d3] => { results := [.lit (.bool true)], args := [d1, d2, d3] }
  | _ => none }
def seqsPartsRow : OpenClaim := { program := "ytcnoaflojojfkab", sum := "b808a557e65cc8aad89d5fb6e0f1deb2ed70b0e0be1ab4fc4711cb6fcfaf9153", func := "lamplighter/lamplighterlaw08.SeqsParts", spec := "seqsParts", unfollowed := true, recurses := true, apart := false }
def SeqsPartsSaid : Prop := seqsPartsRow.holds Try.pinned (OpenSpec.ofChange seqsPartsSpec)

/-- ITS FALSE NEIGHBOUR: 'it returns false'. Refute it at one input. -/
def seqsPartsWrong : ChangeSpec := { name := "seqsParts", fn := fun _ => fun
  | [d1, d2, d3] => { results := [.lit (.bool false)], args := [d1, d2, d3] }
  | _ => none }
def SeqsPartsWrongFalsely : Prop := seqsPartsRow.holds Try.pinned (OpenSpec.ofChange seqsPartsWrong)

/-- 'lamplighterlaw08.SeqsMerge': WHATEVER THE INPUT: true; the input reads as it did. -/
def seqsMergeSpec : ChangeSpec := { name := "seqsMerge", fn := fun _ => fun
  | [d1, d2, d3] => { results := [.lit (.bool true)], args := [d1, d2, d3] }
  | _ => none }
def seqsMergeRow : OpenClaim := { program := "ytcnoaflojojfkab", sum := "b808a557e65cc8aad89d5fb6e0f1deb2ed70b0e0be1ab4fc4711cb6fcfaf9153", func := "lamplighter/lamplighterlaw08.SeqsMerge", spec := "seqsMerge", unfollowed := true, recurses := true, apart := false }
def SeqsMergeSaid : Prop := seqsMergeRow.holds Try.pinned (OpenSpec.ofChange seqsMergeSpec)

/-- ITS FALSE NEIGHBOUR: 'it returns false'. Refute it at one input. -/
def seqsMergeWrong : ChangeSpec := { name := "seqsMerge", fn := fun _ => fun
  | [d1, d2, d3] => { results := [.lit (.bool false)], args := [d1, d2, d3] }
  | _ => none }
def SeqsMergeWrongFalsely : Prop := seqsMergeRow.holds Try.pinned (OpenSpec.ofChange seqsMergeWrong)

/-- 'lamplighterlaw08.SeqsEarly': WHATEVER THE INPUT: true; the input reads as it did. -/
def seqsEarlySpec : ChangeSpec := { name := "seqsEarly", fn := fun _ => fun
  | [d1, d2, d3] => { results := [.lit (.bool true)], args := [d1, d2, d3] }
  | _ => none }
def seqsEarlyRow : OpenClaim := { program := "ytcnoaflojojfkab", sum := "b808a557e65cc8aad89d5fb6e0f1deb2ed70b0e0be1ab4fc4711cb6fcfaf9153", func := "lamplighter/lamplighterlaw08.SeqsEarly", spec := "seqsEarly", unfollowed := true, recurses := true, apart := false }
def SeqsEarlySaid : Prop := seqsEarlyRow.holds Try.pinned (OpenSpec.ofChange seqsEarlySpec)

/-- ITS FALSE NEIGHBOUR: 'it returns false'. Refute it at one input. -/
def seqsEarlyWrong : ChangeSpec := { name := "seqsEarly", fn := fun _ => fun
  | [d1, d2, d3] => { results := [.lit (.bool false)], args := [d1, d2, d3] }
  | _ => none }
def SeqsEarlyWrongFalsely : Prop := seqsEarlyRow.holds Try.pinned (OpenSpec.ofChange seqsEarlyWrong)

/-- 'lamplighterlaw08.SeqsLists': WHATEVER THE INPUT: true; the input reads as it did. -/
def seqsListsSpec : ChangeSpec := { name := "seqsLists", fn := fun _ => fun
  | [d1, d2] => { results := [.lit (.bool true)], args := [d1, d2] }
  | _ => none }
def seqsListsRow : OpenClaim := { program := "ytcnoaflojojfkab", sum := "b808a557e65cc8aad89d5fb6e0f1deb2ed70b0e0be1ab4fc4711cb6fcfaf9153", func := "lamplighter/lamplighterlaw08.SeqsLists", spec := "seqsLists", unfollowed := true, recurses := true, apart := false }
def SeqsListsSaid : Prop := seqsListsRow.holds Try.pinned (OpenSpec.ofChange seqsListsSpec)

/-- ITS FALSE NEIGHBOUR: 'it returns false'. Refute it at one input. -/
def seqsListsWrong : ChangeSpec := { name := "seqsLists", fn := fun _ => fun
  | [d1, d2] => { results := [.lit (.bool false)], args := [d1, d2] }
  | _ => none }
def SeqsListsWrongFalsely : Prop := seqsListsRow.holds Try.pinned (OpenSpec.ofChange seqsListsWrong)

/-- 'lamplighterlaw08.SeqsNil': WHATEVER THE INPUT: true; the input reads as it did. -/
def seqsNilSpec : ChangeSpec := { name := "seqsNil", fn := fun _ => fun
  | [d] => { results := [.lit (.bool true)], args := [d] }
  | _ => none }
def seqsNilRow : OpenClaim := { program := "ytcnoaflojojfkab", sum := "b808a557e65cc8aad89d5fb6e0f1deb2ed70b0e0be1ab4fc4711cb6fcfaf9153", func := "lamplighter/lamplighterlaw08.SeqsNil", spec := "seqsNil", unfollowed := true, recurses := true, apart := false }
def SeqsNilSaid : Prop := seqsNilRow.holds Try.pinned (OpenSpec.ofChange seqsNilSpec)

/-- ITS FALSE NEIGHBOUR: 'it returns false'. Refute it at one input. -/
def seqsNilWrong : ChangeSpec := { name := "seqsNil", fn := fun _ => fun
  | [d] => { results := [.lit (.bool false)], args := [d] }
  | _ => none }
def SeqsNilWrongFalsely : Prop := seqsNilRow.holds Try.pinned (OpenSpec.ofChange seqsNilWrong)

/-- 'lamplighterlaw22.RunOver': WHATEVER THE INPUT: true; the input reads as it did. -/
def runOverSpec : ChangeSpec := { name := "runOver", fn := fun _ => fun
  | [d1, d2, d3] => { results := [.lit (.bool true)], args := [d1, d2, d3] }
  | _ => none }
def runOverRow : OpenClaim := { program := "ytcnoaflojojfkab", sum := "b808a557e65cc8aad89d5fb6e0f1deb2ed70b0e0be1ab4fc4711cb6fcfaf9153", func := "lamplighter/lamplighterlaw22.RunOver", spec := "runOver", unfollowed := true, recurses := true, apart := false }
def RunOverSaid : Prop := runOverRow.holds Try.pinned (OpenSpec.ofChange runOverSpec)

/-- ITS FALSE NEIGHBOUR: 'it returns false'. Refute it at one input. -/
def runOverWrong : ChangeSpec := { name := "runOver", fn := fun _ => fun
  | [d1, d2, d3] => { results := [.lit (.bool false)], args := [d1, d2, d3] }
  | _ => none }
def RunOverWrongFalsely : Prop := runOverRow.holds Try.pinned (OpenSpec.ofChange runOverWrong)

/-- 'lamplighterlaw22.RunAgain': WHATEVER THE INPUT: true; the input reads as it did. -/
def runAgainSpec : ChangeSpec := { name := "runAgain", fn := fun _ => fun
  | [d1, d2, d3] => { results := [.lit (.bool true)], args := [d1, d2, d3] }
  | _ => none }
def runAgainRow : OpenClaim := { program := "ytcnoaflojojfkab", sum := "b808a557e65cc8aad89d5fb6e0f1deb2ed70b0e0be1ab4fc4711cb6fcfaf9153", func := "lamplighter/lamplighterlaw22.RunAgain", spec := "runAgain", unfollowed := true, recurses := true, apart := false }
def RunAgainSaid : Prop := runAgainRow.holds Try.pinned (OpenSpec.ofChange runAgainSpec)

/-- ITS FALSE NEIGHBOUR: 'it returns false'. Refute it at one input. -/
def runAgainWrong : ChangeSpec := { name := "runAgain", fn := fun _ => fun
  | [d1, d2, d3] => { results := [.lit (.bool false)], args := [d1, d2, d3] }
  | _ => none }
def RunAgainWrongFalsely : Prop := runAgainRow.holds Try.pinned (OpenSpec.ofChange runAgainWrong)

/-- 'lamplighterlaw21.NfaMoves': WHATEVER THE INPUT: true; the input reads as it did. -/
def nfaMovesSpec : ChangeSpec := { name := "nfaMoves", fn := fun _ => fun
  | [d1, d2] => { results := [.lit (.bool true)], args := [d1, d2] }
  | _ => none }
def nfaMovesRow : OpenClaim := { program := "ytcnoaflojojfkab", sum := "b808a557e65cc8aad89d5fb6e0f1deb2ed70b0e0be1ab4fc4711cb6fcfaf9153", func := "lamplighter/lamplighterlaw21.NfaMoves", spec := "nfaMoves", apart := false }
def NfaMovesSaid : Prop := nfaMovesRow.holds Try.pinned (OpenSpec.ofChange nfaMovesSpec)

/-- ITS FALSE NEIGHBOUR: 'it returns false'. Refute it at one input. -/
def nfaMovesWrong : ChangeSpec := { name := "nfaMoves", fn := fun _ => fun
  | [d1, d2] => { results := [.lit (.bool false)], args := [d1, d2] }
  | _ => none }
def NfaMovesWrongFalsely : Prop := nfaMovesRow.holds Try.pinned (OpenSpec.ofChange nfaMovesWrong)

/- THE SECOND FORM. 'bulk': how many values and letters a reading holds, each counted each time it is reached (what is shared counts as often as it is met; a slice's spare places count too). A statement '..UptoSaid' is the law's where the arguments, and the package variables that the reading takes, are together of bulk at most 1048576: NARROWER than '..Said'. Prove '..Said' where nothing that the law and all that it calls make is longer than what came in: it says more and counts as full. Else prove '..UptoSaid'. A law counts once. -/
mutual
def uptoBulk {H : Type} : DataW H → Nat
  | .lit (.string bytes) => bytes.length + 1
  | .lit _ => 1
  | .nil => 1
  | .ptr d => uptoBulk d + 1
  | .slice elems spare => uptoBulkAll elems + uptoBulkAll spare + 1
  | .agg parts => uptoBulkAll parts + 1
  | .iface _ d => uptoBulk d + 1
  | .map entries => uptoBulkEntries entries + 1
  | .held _ => 1
def uptoBulkAll {H : Type} : List (DataW H) → Nat
  | [] => 0
  | d :: r => uptoBulk d + uptoBulkAll r
def uptoBulkEntries {H : Type} : List (Lit × DataW H) → Nat
  | [] => 0
  | x :: r => uptoBulkEntry x + uptoBulkEntries r
def uptoBulkEntry {H : Type} : Lit × DataW H → Nat
  | (.string bytes, d) => bytes.length + uptoBulk d + 1
  | (_, d) => uptoBulk d + 1
 end
def uptoSmall : (H : Type) → List (DataW H) → Bool := fun _ ds => decide (uptoBulkAll ds ≤ 1048576)
def OpenSpec.upto (s : _root_.Go.ChangeSpec) : _root_.Go.OpenSpec := { _root_.Go.OpenSpec.ofChange s with cond := some uptoSmall }

/-- 'lamplighterlaw01.NumProducts', WHERE WHAT IT READS IS OF BULK AT MOST 1048576: true; the input reads as it did. -/
def numProductsUptoRow : OpenClaim := { program := "ytcnoaflojojfkab", sum := "b808a557e65cc8aad89d5fb6e0f1deb2ed70b0e0be1ab4fc4711cb6fcfaf9153", func := "lamplighter/lamplighterlaw01.NumProducts", spec := "numProducts", apart := false, narrowed := true }
def NumProductsUptoSaid : Prop := numProductsUptoRow.holds Try.pinned (OpenSpec.upto numProductsSpec)

/-- 'lamplighterlaw01.NumTexts', WHERE WHAT IT READS IS OF BULK AT MOST 1048576: true; the input reads as it did. -/
def numTextsUptoRow : OpenClaim := { program := "ytcnoaflojojfkab", sum := "b808a557e65cc8aad89d5fb6e0f1deb2ed70b0e0be1ab4fc4711cb6fcfaf9153", func := "lamplighter/lamplighterlaw01.NumTexts", spec := "numTexts", recurses := true, apart := false, narrowed := true }
def NumTextsUptoSaid : Prop := numTextsUptoRow.holds Try.pinned (OpenSpec.upto numTextsSpec)

/-- 'lamplighterlaw01.NumTimes', WHERE WHAT IT READS IS OF BULK AT MOST 1048576: true; the input reads as it did. -/
def numTimesUptoRow : OpenClaim := { program := "ytcnoaflojojfkab", sum := "b808a557e65cc8aad89d5fb6e0f1deb2ed70b0e0be1ab4fc4711cb6fcfaf9153", func := "lamplighter/lamplighterlaw01.NumTimes", spec := "numTimes", apart := false, narrowed := true }
def NumTimesUptoSaid : Prop := numTimesUptoRow.holds Try.pinned (OpenSpec.upto numTimesSpec)

/-- 'lamplighterlaw01.NumSums', WHERE WHAT IT READS IS OF BULK AT MOST 1048576: true; the input reads as it did. -/
def numSumsUptoRow : OpenClaim := { program := "ytcnoaflojojfkab", sum := "b808a557e65cc8aad89d5fb6e0f1deb2ed70b0e0be1ab4fc4711cb6fcfaf9153", func := "lamplighter/lamplighterlaw01.NumSums", spec := "numSums", apart := false, narrowed := true }
def NumSumsUptoSaid : Prop := numSumsUptoRow.holds Try.pinned (OpenSpec.upto numSumsSpec)

/-- 'lamplighterlaw08.SeqsParts', WHERE WHAT IT READS IS OF BULK AT MOST 1048576: true; the input reads as it did. -/
def seqsPartsUptoRow : OpenClaim := { program := "ytcnoaflojojfkab", sum := "b808a557e65cc8aad89d5fb6e0f1deb2ed70b0e0be1ab4fc4711cb6fcfaf9153", func := "lamplighter/lamplighterlaw08.SeqsParts", spec := "seqsParts", unfollowed := true, recurses := true, apart := false, narrowed := true }
def SeqsPartsUptoSaid : Prop := seqsPartsUptoRow.holds Try.pinned (OpenSpec.upto seqsPartsSpec)

/-- 'lamplighterlaw08.SeqsMerge', WHERE WHAT IT READS IS OF BULK AT MOST 1048576: true; the input reads as it did. -/
def seqsMergeUptoRow : OpenClaim := { program := "ytcnoaflojojfkab", sum := "b808a557e65cc8aad89d5fb6e0f1deb2ed70b0e0be1ab4fc4711cb6fcfaf9153", func := "lamplighter/lamplighterlaw08.SeqsMerge", spec := "seqsMerge", unfollowed := true, recurses := true, apart := false, narrowed := true }
def SeqsMergeUptoSaid : Prop := seqsMergeUptoRow.holds Try.pinned (OpenSpec.upto seqsMergeSpec)

/-- 'lamplighterlaw08.SeqsEarly', WHERE WHAT IT READS IS OF BULK AT MOST 1048576: true; the input reads as it did. -/
def seqsEarlyUptoRow : OpenClaim := { program := "ytcnoaflojojfkab", sum := "b808a557e65cc8aad89d5fb6e0f1deb2ed70b0e0be1ab4fc4711cb6fcfaf9153", func := "lamplighter/lamplighterlaw08.SeqsEarly", spec := "seqsEarly", unfollowed := true, recurses := true, apart := false, narrowed := true }
def SeqsEarlyUptoSaid : Prop := seqsEarlyUptoRow.holds Try.pinned (OpenSpec.upto seqsEarlySpec)

/-- 'lamplighterlaw08.SeqsLists', WHERE WHAT IT READS IS OF BULK AT MOST 1048576: true; the input reads as it did. -/
def seqsListsUptoRow : OpenClaim := { program := "ytcnoaflojojfkab", sum := "b808a557e65cc8aad89d5fb6e0f1deb2ed70b0e0be1ab4fc4711cb6fcfaf9153", func := "lamplighter/lamplighterlaw08.SeqsLists", spec := "seqsLists", unfollowed := true, recurses := true, apart := false, narrowed := true }
def SeqsListsUptoSaid : Prop := seqsListsUptoRow.holds Try.pinned (OpenSpec.upto seqsListsSpec)

/-- 'lamplighterlaw08.SeqsNil', WHERE WHAT IT READS IS OF BULK AT MOST 1048576: true; the input reads as it did. -/
def seqsNilUptoRow : OpenClaim := { program := "ytcnoaflojojfkab", sum := "b808a557e65cc8aad89d5fb6e0f1deb2ed70b0e0be1ab4fc4711cb6fcfaf9153", func := "lamplighter/lamplighterlaw08.SeqsNil", spec := "seqsNil", unfollowed := true, recurses := true, apart := false, narrowed := true }
def SeqsNilUptoSaid : Prop := seqsNilUptoRow.holds Try.pinned (OpenSpec.upto seqsNilSpec)

/-- 'lamplighterlaw22.RunOver', WHERE WHAT IT READS IS OF BULK AT MOST 1048576: true; the input reads as it did. -/
def runOverUptoRow : OpenClaim := { program := "ytcnoaflojojfkab", sum := "b808a557e65cc8aad89d5fb6e0f1deb2ed70b0e0be1ab4fc4711cb6fcfaf9153", func := "lamplighter/lamplighterlaw22.RunOver", spec := "runOver", unfollowed := true, recurses := true, apart := false, narrowed := true }
def RunOverUptoSaid : Prop := runOverUptoRow.holds Try.pinned (OpenSpec.upto runOverSpec)

/-- 'lamplighterlaw22.RunAgain', WHERE WHAT IT READS IS OF BULK AT MOST 1048576: true; the input reads as it did. -/
def runAgainUptoRow : OpenClaim := { program := "ytcnoaflojojfkab", sum := "b808a557e65cc8aad89d5fb6e0f1deb2ed70b0e0be1ab4fc4711cb6fcfaf9153", func := "lamplighter/lamplighterlaw22.RunAgain", spec := "runAgain", unfollowed := true, recurses := true, apart := false, narrowed := true }
def RunAgainUptoSaid : Prop := runAgainUptoRow.holds Try.pinned (OpenSpec.upto runAgainSpec)

/-- 'lamplighterlaw21.NfaMoves', WHERE WHAT IT READS IS OF BULK AT MOST 1048576: true; the input reads as it did. -/
def nfaMovesUptoRow : OpenClaim := { program := "ytcnoaflojojfkab", sum := "b808a557e65cc8aad89d5fb6e0f1deb2ed70b0e0be1ab4fc4711cb6fcfaf9153", func := "lamplighter/lamplighterlaw21.NfaMoves", spec := "nfaMoves", apart := false, narrowed := true }
def NfaMovesUptoSaid : Prop := nfaMovesUptoRow.holds Try.pinned (OpenSpec.upto nfaMovesSpec)

end Rows
end Go.Proofs.Ytcnoaflojojfkab
