/-
  No cell of these rows narrows 'for every input' (looked for: loops, veiled, ifaces, maps, wideKeys, modest, calm, conditions, laid).
  DERIVED. THE GIVEN ROWS OF THIS SEAT. 10 by the template 'for every input the law returns true; each argument reads behind the call as it read before'; 0 by the template 'total and deterministic' (their statements: YtkfphlmbdppbfaaTotals.lean).
  GIVEN WITH THE SEED: the statements are not yours to turn. If you find one false, say at which input.
  Laid BY PROGRAM, IN A SANDBOX (cutbox-rows.mjs): the forced cells as the released guide's own fill.sh prints them over the translation 87793d6d23384edc… (all of the seat's roots in one cut). By AI agents, Wed Nov 11 2026. No macro, syntax, notation, axiom, sorry.
-/
import Derived.Test.YtkfphlmbdppbfaaChecked
import GoSem.Claim
import GoSem.ClaimJoined
import GoSem.ClaimMapViews
import Derived.JoinedTies
import Derived.KernelRfl
namespace Go.Proofs.Ytkfphlmbdppbfaa
/- THE CELL 'sum', in the pinned program and in every row, IS THE sha256 OF THE DUMP (.gsa) THAT YtkfphlmbdppbfaaProg.lean LOADS. Nothing in Lean hashes anything: it is a label: what it is worth is what the hold of that sum in a sandbox is worth. -/
noncomputable def Try.pinned : Pinned := { name := "ytkfphlmbdppbfaa", sum := "87793d6d23384edce486616f695b8e1058383f53860201891525369439a3e1f0", checked := Try.checked }
namespace Rows
def none {H : Type} : Left H := { results := [], args := [] }

/-- 'lamplighterlaw53.CodecNumbers': WHATEVER THE INPUT: true; the input reads as it did. -/
def codecNumbersSpec : ChangeSpec := { name := "codecNumbers", fn := fun _ => fun
  | [d1, d2] => { results := [.lit (.bool true)], args := [d1, d2] }
  | _ => none }
def codecNumbersRow : OpenClaim := { program := "ytkfphlmbdppbfaa", sum := "87793d6d23384edce486616f695b8e1058383f53860201891525369439a3e1f0", func := "lamplighter/lamplighterlaw53.CodecNumbers", spec := "codecNumbers", recurses := true, apart := false }
def CodecNumbersSaid : Prop := codecNumbersRow.holds Try.pinned (OpenSpec.ofChange codecNumbersSpec)

/-- ITS FALSE NEIGHBOUR: 'it returns false'. Refute it at one input. -/
def codecNumbersWrong : ChangeSpec := { name := "codecNumbers", fn := fun _ => fun
  | [d1, d2] => { results := [.lit (.bool false)], args := [d1, d2] }
  | _ => none }
def CodecNumbersWrongFalsely : Prop := codecNumbersRow.holds Try.pinned (OpenSpec.ofChange codecNumbersWrong)

/-- 'lamplighterlaw53.CodecAny': WHATEVER THE INPUT: true; the input reads as it did. -/
def codecAnySpec : ChangeSpec := { name := "codecAny", fn := fun _ => fun
  | [d1, d2, d3] => { results := [.lit (.bool true)], args := [d1, d2, d3] }
  | _ => none }
def codecAnyRow : OpenClaim := { program := "ytkfphlmbdppbfaa", sum := "87793d6d23384edce486616f695b8e1058383f53860201891525369439a3e1f0", func := "lamplighter/lamplighterlaw53.CodecAny", spec := "codecAny", apart := false }
def CodecAnySaid : Prop := codecAnyRow.holds Try.pinned (OpenSpec.ofChange codecAnySpec)

/-- ITS FALSE NEIGHBOUR: 'it returns false'. Refute it at one input. -/
def codecAnyWrong : ChangeSpec := { name := "codecAny", fn := fun _ => fun
  | [d1, d2, d3] => { results := [.lit (.bool false)], args := [d1, d2, d3] }
  | _ => none }
def CodecAnyWrongFalsely : Prop := codecAnyRow.holds Try.pinned (OpenSpec.ofChange codecAnyWrong)

/-- 'lamplighterlaw53.CodecThings': WHATEVER THE INPUT: true; the input reads as it did. -/
def codecThingsSpec : ChangeSpec := { name := "codecThings", fn := fun _ => fun
  | [d1, d2] => { results := [.lit (.bool true)], args := [d1, d2] }
  | _ => none }
def codecThingsRow : OpenClaim := { program := "ytkfphlmbdppbfaa", sum := "87793d6d23384edce486616f695b8e1058383f53860201891525369439a3e1f0", func := "lamplighter/lamplighterlaw53.CodecThings", spec := "codecThings", recurses := true, apart := false }
def CodecThingsSaid : Prop := codecThingsRow.holds Try.pinned (OpenSpec.ofChange codecThingsSpec)

/-- ITS FALSE NEIGHBOUR: 'it returns false'. Refute it at one input. -/
def codecThingsWrong : ChangeSpec := { name := "codecThings", fn := fun _ => fun
  | [d1, d2] => { results := [.lit (.bool false)], args := [d1, d2] }
  | _ => none }
def CodecThingsWrongFalsely : Prop := codecThingsRow.holds Try.pinned (OpenSpec.ofChange codecThingsWrong)

/-- 'lamplighterlaw13.TypingMade': WHATEVER THE INPUT: true; the input reads as it did. -/
def typingMadeSpec : ChangeSpec := { name := "typingMade", fn := fun _ => fun
  | [d1, d2] => { results := [.lit (.bool true)], args := [d1, d2] }
  | _ => none }
def typingMadeRow : OpenClaim := { program := "ytkfphlmbdppbfaa", sum := "87793d6d23384edce486616f695b8e1058383f53860201891525369439a3e1f0", func := "lamplighter/lamplighterlaw13.TypingMade", spec := "typingMade", unfollowed := true, recurses := true, apart := false }
def TypingMadeSaid : Prop := typingMadeRow.holds Try.pinned (OpenSpec.ofChange typingMadeSpec)

/-- ITS FALSE NEIGHBOUR: 'it returns false'. Refute it at one input. -/
def typingMadeWrong : ChangeSpec := { name := "typingMade", fn := fun _ => fun
  | [d1, d2] => { results := [.lit (.bool false)], args := [d1, d2] }
  | _ => none }
def TypingMadeWrongFalsely : Prop := typingMadeRow.holds Try.pinned (OpenSpec.ofChange typingMadeWrong)

/-- 'lamplighterlaw13.TypingKinds': WHATEVER THE INPUT: true; the input reads as it did. -/
def typingKindsSpec : ChangeSpec := { name := "typingKinds", fn := fun _ => fun
  | [d1, d2, d3] => { results := [.lit (.bool true)], args := [d1, d2, d3] }
  | _ => none }
def typingKindsRow : OpenClaim := { program := "ytkfphlmbdppbfaa", sum := "87793d6d23384edce486616f695b8e1058383f53860201891525369439a3e1f0", func := "lamplighter/lamplighterlaw13.TypingKinds", spec := "typingKinds", unfollowed := true, recurses := true, apart := false }
def TypingKindsSaid : Prop := typingKindsRow.holds Try.pinned (OpenSpec.ofChange typingKindsSpec)

/-- ITS FALSE NEIGHBOUR: 'it returns false'. Refute it at one input. -/
def typingKindsWrong : ChangeSpec := { name := "typingKinds", fn := fun _ => fun
  | [d1, d2, d3] => { results := [.lit (.bool false)], args := [d1, d2, d3] }
  | _ => none }
def TypingKindsWrongFalsely : Prop := typingKindsRow.holds Try.pinned (OpenSpec.ofChange typingKindsWrong)

/-- 'lamplighterlaw13.TypingFields': WHATEVER THE INPUT: true; the input reads as it did. -/
def typingFieldsSpec : ChangeSpec := { name := "typingFields", fn := fun _ => fun
  | [d] => { results := [.lit (.bool true)], args := [d] }
  | _ => none }
def typingFieldsRow : OpenClaim := { program := "ytkfphlmbdppbfaa", sum := "87793d6d23384edce486616f695b8e1058383f53860201891525369439a3e1f0", func := "lamplighter/lamplighterlaw13.TypingFields", spec := "typingFields", unfollowed := true, recurses := true, apart := false }
def TypingFieldsSaid : Prop := typingFieldsRow.holds Try.pinned (OpenSpec.ofChange typingFieldsSpec)

/-- ITS FALSE NEIGHBOUR: 'it returns false'. Refute it at one input. -/
def typingFieldsWrong : ChangeSpec := { name := "typingFields", fn := fun _ => fun
  | [d] => { results := [.lit (.bool false)], args := [d] }
  | _ => none }
def TypingFieldsWrongFalsely : Prop := typingFieldsRow.holds Try.pinned (OpenSpec.ofChange typingFieldsWrong)

/-- 'lamplighterlaw52.TallyCounts': WHATEVER THE INPUT: true; the input reads as it did. -/
def tallyCountsSpec : ChangeSpec := { name := "tallyCounts", fn := fun _ => fun
  | [d] => { results := [.lit (.bool true)], args := [d] }
  | _ => none }
def tallyCountsRow : OpenClaim := { program := "ytkfphlmbdppbfaa", sum := "87793d6d23384edce486616f695b8e1058383f53860201891525369439a3e1f0", func := "lamplighter/lamplighterlaw52.TallyCounts", spec := "tallyCounts", inPlace := ["slices.overlaps[string]", "slices.overlaps[*lamplighter/tally.counter]", "slices.overlaps[int]"], unfollowed := true, recurses := true, apart := false }
def TallyCountsSaid : Prop := tallyCountsRow.holds Try.pinned (OpenSpec.ofChange tallyCountsSpec)

/-- ITS FALSE NEIGHBOUR: 'it returns false'. Refute it at one input. -/
def tallyCountsWrong : ChangeSpec := { name := "tallyCounts", fn := fun _ => fun
  | [d] => { results := [.lit (.bool false)], args := [d] }
  | _ => none }
def TallyCountsWrongFalsely : Prop := tallyCountsRow.holds Try.pinned (OpenSpec.ofChange tallyCountsWrong)

/-- 'lamplighterlaw52.TallyTimes': WHATEVER THE INPUT: true; the input reads as it did. -/
def tallyTimesSpec : ChangeSpec := { name := "tallyTimes", fn := fun _ => fun
  | [d1, d2, d3] => { results := [.lit (.bool true)], args := [d1, d2, d3] }
  | _ => none }
def tallyTimesRow : OpenClaim := { program := "ytkfphlmbdppbfaa", sum := "87793d6d23384edce486616f695b8e1058383f53860201891525369439a3e1f0", func := "lamplighter/lamplighterlaw52.TallyTimes", spec := "tallyTimes", inPlace := ["slices.overlaps[string]", "slices.overlaps[int]", "slices.overlaps[*lamplighter/tally.counter]"], unfollowed := true, recurses := true, apart := false }
def TallyTimesSaid : Prop := tallyTimesRow.holds Try.pinned (OpenSpec.ofChange tallyTimesSpec)

/-- ITS FALSE NEIGHBOUR: 'it returns false'. Refute it at one input. -/
def tallyTimesWrong : ChangeSpec := { name := "tallyTimes", fn := fun _ => fun
  | [d1, d2, d3] => { results := [.lit (.bool false)], args := [d1, d2, d3] }
  | _ => none }
def TallyTimesWrongFalsely : Prop := tallyTimesRow.holds Try.pinned (OpenSpec.ofChange tallyTimesWrong)

/-- 'lamplighterlaw42.MergePlays': WHATEVER THE INPUT: true; the input reads as it did. -/
def mergePlaysSpec : ChangeSpec := { name := "mergePlays", fn := fun _ => fun
  | [d1, d2] => { results := [.lit (.bool true)], args := [d1, d2] }
  | _ => none }
def mergePlaysRow : OpenClaim := { program := "ytkfphlmbdppbfaa", sum := "87793d6d23384edce486616f695b8e1058383f53860201891525369439a3e1f0", func := "lamplighter/lamplighterlaw42.MergePlays", spec := "mergePlays", unfollowed := true, recurses := true, apart := false }
def MergePlaysSaid : Prop := mergePlaysRow.holds Try.pinned (OpenSpec.ofChange mergePlaysSpec)

/-- ITS FALSE NEIGHBOUR: 'it returns false'. Refute it at one input. -/
def mergePlaysWrong : ChangeSpec := { name := "mergePlays", fn := fun _ => fun
  | [d1, d2] => { results := [.lit (.bool false)], args := [d1, d2] }
  | _ => none }
def MergePlaysWrongFalsely : Prop := mergePlaysRow.holds Try.pinned (OpenSpec.ofChange mergePlaysWrong)

/-- 'lamplighterlaw28.TableOf': WHATEVER THE INPUT: true; the input reads as it did. -/
def tableOfSpec : ChangeSpec := { name := "tableOf", fn := fun _ => fun
  | [d1, d2] => { results := [.lit (.bool true)], args := [d1, d2] }
  | _ => none }
def tableOfRow : OpenClaim := { program := "ytkfphlmbdppbfaa", sum := "87793d6d23384edce486616f695b8e1058383f53860201891525369439a3e1f0", func := "lamplighter/lamplighterlaw28.TableOf", spec := "tableOf", unfollowed := true, recurses := true, apart := false }
def TableOfSaid : Prop := tableOfRow.holds Try.pinned (OpenSpec.ofChange tableOfSpec)

/-- ITS FALSE NEIGHBOUR: 'it returns false'. Refute it at one input. -/
def tableOfWrong : ChangeSpec := { name := "tableOf", fn := fun _ => fun
  | [d1, d2] => { results := [.lit (.bool false)], args := [d1, d2] }
  | _ => none }
def TableOfWrongFalsely : Prop := tableOfRow.holds Try.pinned (OpenSpec.ofChange tableOfWrong)

/- THE SECOND FORM. 'bulk': how many values and letters a reading holds, each counted each time it is reached (what is shared counts as often as it is met; a slice's spare places count too). A statement '..UptoSaid' is the law's where the arguments, and the package variables that the reading takes, are together of bulk at most 1048576: NARROWER than '..Said'. Prove '..Said' where nothing that the law and all that it calls make is longer than what came in: it says more and counts as full. Else prove '..UptoSaid'. A law counts once. -/
mutual
def uptoBulk {H : Type} : DataW H → Nat
  | .lit (.string bytes) => bytes.length + 1
  | .lit _ => 1
  | .nil => 1
  | .ptr d => uptoBulk d + 1
  | .slice elems spare => uptoBulkAll elems + uptoBulkAll spare + 1
  | .agg parts => uptoBulkAll parts + 1
  | .iface _ d => uptoBulk d + 1
  | .map entries => uptoBulkEntries entries + 1
  | .held _ => 1
def uptoBulkAll {H : Type} : List (DataW H) → Nat
  | [] => 0
  | d :: r => uptoBulk d + uptoBulkAll r
def uptoBulkEntries {H : Type} : List (Lit × DataW H) → Nat
  | [] => 0
  | x :: r => uptoBulkEntry x + uptoBulkEntries r
def uptoBulkEntry {H : Type} : Lit × DataW H → Nat
  | (.string bytes, d) => bytes.length + uptoBulk d + 1
  | (_, d) => uptoBulk d + 1
 end
def uptoSmall : (H : Type) → List (DataW H) → Bool := fun _ ds => decide (uptoBulkAll ds ≤ 1048576)
def OpenSpec.upto (s : _root_.Go.ChangeSpec) : _root_.Go.OpenSpec := { _root_.Go.OpenSpec.ofChange s with cond := some uptoSmall }

/-- 'lamplighterlaw53.CodecNumbers', WHERE WHAT IT READS IS OF BULK AT MOST 1048576: true; the input reads as it did. -/
def codecNumbersUptoRow : OpenClaim := { program := "ytkfphlmbdppbfaa", sum := "87793d6d23384edce486616f695b8e1058383f53860201891525369439a3e1f0", func := "lamplighter/lamplighterlaw53.CodecNumbers", spec := "codecNumbers", recurses := true, apart := false, narrowed := true }
def CodecNumbersUptoSaid : Prop := codecNumbersUptoRow.holds Try.pinned (OpenSpec.upto codecNumbersSpec)

/-- 'lamplighterlaw53.CodecAny', WHERE WHAT IT READS IS OF BULK AT MOST 1048576: true; the input reads as it did. -/
def codecAnyUptoRow : OpenClaim := { program := "ytkfphlmbdppbfaa", sum := "87793d6d23384edce486616f695b8e1058383f53860201891525369439a3e1f0", func := "lamplighter/lamplighterlaw53.CodecAny", spec := "codecAny", apart := false, narrowed := true }
def CodecAnyUptoSaid : Prop := codecAnyUptoRow.holds Try.pinned (OpenSpec.upto codecAnySpec)

/-- 'lamplighterlaw53.CodecThings', WHERE WHAT IT READS IS OF BULK AT MOST 1048576: true; the input reads as it did. -/
def codecThingsUptoRow : OpenClaim := { program := "ytkfphlmbdppbfaa", sum := "87793d6d23384edce486616f695b8e1058383f53860201891525369439a3e1f0", func := "lamplighter/lamplighterlaw53.CodecThings", spec := "codecThings", recurses := true, apart := false, narrowed := true }
def CodecThingsUptoSaid : Prop := codecThingsUptoRow.holds Try.pinned (OpenSpec.upto codecThingsSpec)

/-- 'lamplighterlaw13.TypingMade', WHERE WHAT IT READS IS OF BULK AT MOST 1048576: true; the input reads as it did. -/
def typingMadeUptoRow : OpenClaim := { program := "ytkfphlmbdppbfaa", sum := "87793d6d23384edce486616f695b8e1058383f53860201891525369439a3e1f0", func := "lamplighter/lamplighterlaw13.TypingMade", spec := "typingMade", unfollowed := true, recurses := true, apart := false, narrowed := true }
def TypingMadeUptoSaid : Prop := typingMadeUptoRow.holds Try.pinned (OpenSpec.upto typingMadeSpec)

/-- 'lamplighterlaw13.TypingKinds', WHERE WHAT IT READS IS OF BULK AT MOST 1048576: true; the input reads as it did. -/
def typingKindsUptoRow : OpenClaim := { program := "ytkfphlmbdppbfaa", sum := "87793d6d23384edce486616f695b8e1058383f53860201891525369439a3e1f0", func := "lamplighter/lamplighterlaw13.TypingKinds", spec := "typingKinds", unfollowed := true, recurses := true, apart := false, narrowed := true }
def TypingKindsUptoSaid : Prop := typingKindsUptoRow.holds Try.pinned (OpenSpec.upto typingKindsSpec)

/-- 'lamplighterlaw13.TypingFields', WHERE WHAT IT READS IS OF BULK AT MOST 1048576: true; the input reads as it did. -/
def typingFieldsUptoRow : OpenClaim := { program := "ytkfphlmbdppbfaa", sum := "87793d6d23384edce486616f695b8e1058383f53860201891525369439a3e1f0", func := "lamplighter/lamplighterlaw13.TypingFields", spec := "typingFields", unfollowed := true, recurses := true, apart := false, narrowed := true }
def TypingFieldsUptoSaid : Prop := typingFieldsUptoRow.holds Try.pinned (OpenSpec.upto typingFieldsSpec)

/-- 'lamplighterlaw52.TallyCounts', WHERE WHAT IT READS IS OF BULK AT MOST 1048576: true; the input reads as it did. -/
def tallyCountsUptoRow : OpenClaim := { program := "ytkfphlmbdppbfaa", sum := "87793d6d23384edce486616f695b8e1058383f53860201891525369439a3e1f0", func := "lamplighter/lamplighterlaw52.TallyCounts", spec := "tallyCounts", inPlace := ["slices.overlaps[string]", "slices.overlaps[*lamplighter/tally.counter]", "slices.overlaps[int]"], unfollowed := true, recurses := true, apart := false, narrowed := true }
def TallyCountsUptoSaid : Prop := tallyCountsUptoRow.holds Try.pinned (OpenSpec.upto tallyCountsSpec)

/-- 'lamplighterlaw52.TallyTimes', WHERE WHAT IT READS IS OF BULK AT MOST 1048576: true; the input reads as it did. -/
def tallyTimesUptoRow : OpenClaim := { program := "ytkfphlmbdppbfaa", sum := "87793d6d23384edce486616f695b8e1058383f53860201891525369439a3e1f0", func := "lamplighter/lamplighterlaw52.TallyTimes", spec := "tallyTimes", inPlace := ["slices.overlaps[string]", "slices.overlaps[int]", "slices.overlaps[*lamplighter/tally.counter]"], unfollowed := true, recurses := true, apart := false, narrowed := true }
def TallyTimesUptoSaid : Prop := tallyTimesUptoRow.holds Try.pinned (OpenSpec.upto tallyTimesSpec)

/-- 'lamplighterlaw42.MergePlays', WHERE WHAT IT READS IS OF BULK AT MOST 1048576: true; the input reads as it did. -/
def mergePlaysUptoRow : OpenClaim := { program := "ytkfphlmbdppbfaa", sum := "87793d6d23384edce486616f695b8e1058383f53860201891525369439a3e1f0", func := "lamplighter/lamplighterlaw42.MergePlays", spec := "mergePlays", unfollowed := true, recurses := true, apart := false, narrowed := true }
def MergePlaysUptoSaid : Prop := mergePlaysUptoRow.holds Try.pinned (OpenSpec.upto mergePlaysSpec)

/-- 'lamplighterlaw28.TableOf', WHERE WHAT IT READS IS OF BULK AT MOST 1048576: true; the input reads as it did. -/
def tableOfUptoRow : OpenClaim := { program := "ytkfphlmbdppbfaa", sum := "87793d6d23384edce486616f695b8e1058383f53860201891525369439a3e1f0", func := "lamplighter/lamplighterlaw28.TableOf", spec := "tableOf", unfollowed := true, recurses := true, apart := false, narrowed := true }
def TableOfUptoSaid : Prop := tableOfUptoRow.holds Try.pinned (OpenSpec.upto tableOfSpec)

end Rows
end Go.Proofs.Ytkfphlmbdppbfaa
