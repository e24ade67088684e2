/-
  No cell of these rows narrows 'for every input' (looked for: loops, veiled, ifaces, maps, wideKeys, modest, calm, conditions, laid).
  DERIVED. THE GIVEN ROWS OF THIS SEAT. 12 by the template 'for every input the law returns true; each argument reads behind the call as it read before'; 0 by the template 'total and deterministic' (their statements: YtcnoaflojojfkaaTotals.lean).
  GIVEN WITH THE SEED: the statements are not yours to turn. If you find one false, say at which input.
  Laid BY PROGRAM, IN A SANDBOX (cutbox-rows.mjs): the forced cells as the released guide's own fill.sh prints them over the translation 5e9e450bd594e38d… (all of the seat's roots in one cut). By AI agents, Wed Nov 11 2026. No macro, syntax, notation, axiom, sorry.
-/
import Derived.Test.YtcnoaflojojfkaaChecked
import GoSem.Claim
import GoSem.ClaimJoined
import GoSem.ClaimMapViews
import Derived.JoinedTies
import Derived.KernelRfl
namespace Go.Proofs.Ytcnoaflojojfkaa
/- THE CELL 'sum', in the pinned program and in every row, IS THE sha256 OF THE DUMP (.gsa) THAT YtcnoaflojojfkaaProg.lean LOADS. Nothing in Lean hashes anything: it is a label: what it is worth is what the hold of that sum in a sandbox is worth. -/
noncomputable def Try.pinned : Pinned := { name := "ytcnoaflojojfkaa", sum := "5e9e450bd594e38dab570e24f62a0f034a573964a927b1597cf4230d27df96ea", checked := Try.checked }
namespace Rows
def none {H : Type} : Left H := { results := [], args := [] }

/-- 'lamplighterlaw27.MarkGoes': WHATEVER THE INPUT: true; the input reads as it did. -/
def markGoesSpec : ChangeSpec := { name := "markGoes", fn := fun _ => fun
  | [d1, d2] => { results := [.lit (.bool true)], args := [d1, d2] }
  | _ => none }
def markGoesRow : OpenClaim := { program := "ytcnoaflojojfkaa", sum := "5e9e450bd594e38dab570e24f62a0f034a573964a927b1597cf4230d27df96ea", func := "lamplighter/lamplighterlaw27.MarkGoes", spec := "markGoes", apart := false }
def MarkGoesSaid : Prop := markGoesRow.holds Try.pinned (OpenSpec.ofChange markGoesSpec)

/-- ITS FALSE NEIGHBOUR: 'it returns false'. Refute it at one input. -/
def markGoesWrong : ChangeSpec := { name := "markGoes", fn := fun _ => fun
  | [d1, d2] => { results := [.lit (.bool false)], args := [d1, d2] }
  | _ => none }
def MarkGoesWrongFalsely : Prop := markGoesRow.holds Try.pinned (OpenSpec.ofChange markGoesWrong)

/-- 'lamplighterlaw27.MarkLeast': WHATEVER THE INPUT: true; the input reads as it did. -/
def markLeastSpec : ChangeSpec := { name := "markLeast", fn := fun _ => fun
  | [d] => { results := [.lit (.bool true)], args := [d] }
  | _ => none }
def markLeastRow : OpenClaim := { program := "ytcnoaflojojfkaa", sum := "5e9e450bd594e38dab570e24f62a0f034a573964a927b1597cf4230d27df96ea", func := "lamplighter/lamplighterlaw27.MarkLeast", spec := "markLeast", apart := false }
def MarkLeastSaid : Prop := markLeastRow.holds Try.pinned (OpenSpec.ofChange markLeastSpec)

/-- ITS FALSE NEIGHBOUR: 'it returns false'. Refute it at one input. -/
def markLeastWrong : ChangeSpec := { name := "markLeast", fn := fun _ => fun
  | [d] => { results := [.lit (.bool false)], args := [d] }
  | _ => none }
def MarkLeastWrongFalsely : Prop := markLeastRow.holds Try.pinned (OpenSpec.ofChange markLeastWrong)

/-- 'lamplighterlaw16.PatParts': WHATEVER THE INPUT: true; the input reads as it did. -/
def patPartsSpec : ChangeSpec := { name := "patParts", fn := fun _ => fun
  | [d1, d2, d3] => { results := [.lit (.bool true)], args := [d1, d2, d3] }
  | _ => none }
def patPartsRow : OpenClaim := { program := "ytcnoaflojojfkaa", sum := "5e9e450bd594e38dab570e24f62a0f034a573964a927b1597cf4230d27df96ea", func := "lamplighter/lamplighterlaw16.PatParts", spec := "patParts", apart := false }
def PatPartsSaid : Prop := patPartsRow.holds Try.pinned (OpenSpec.ofChange patPartsSpec)

/-- ITS FALSE NEIGHBOUR: 'it returns false'. Refute it at one input. -/
def patPartsWrong : ChangeSpec := { name := "patParts", fn := fun _ => fun
  | [d1, d2, d3] => { results := [.lit (.bool false)], args := [d1, d2, d3] }
  | _ => none }
def PatPartsWrongFalsely : Prop := patPartsRow.holds Try.pinned (OpenSpec.ofChange patPartsWrong)

/-- 'lamplighterlaw16.PatScope': WHATEVER THE INPUT: true; the input reads as it did. -/
def patScopeSpec : ChangeSpec := { name := "patScope", fn := fun _ => fun
  | [d1, d2] => { results := [.lit (.bool true)], args := [d1, d2] }
  | _ => none }
def patScopeRow : OpenClaim := { program := "ytcnoaflojojfkaa", sum := "5e9e450bd594e38dab570e24f62a0f034a573964a927b1597cf4230d27df96ea", func := "lamplighter/lamplighterlaw16.PatScope", spec := "patScope", unfollowed := true, recurses := true, apart := false }
def PatScopeSaid : Prop := patScopeRow.holds Try.pinned (OpenSpec.ofChange patScopeSpec)

/-- ITS FALSE NEIGHBOUR: 'it returns false'. Refute it at one input. -/
def patScopeWrong : ChangeSpec := { name := "patScope", fn := fun _ => fun
  | [d1, d2] => { results := [.lit (.bool false)], args := [d1, d2] }
  | _ => none }
def PatScopeWrongFalsely : Prop := patScopeRow.holds Try.pinned (OpenSpec.ofChange patScopeWrong)

/-- 'lamplighterlaw07.PersStays': WHATEVER THE INPUT: true; the input reads as it did. -/
def persStaysSpec : ChangeSpec := { name := "persStays", fn := fun _ => fun
  | [d1, d2, d3] => { results := [.lit (.bool true)], args := [d1, d2, d3] }
  | _ => none }
def persStaysRow : OpenClaim := { program := "ytcnoaflojojfkaa", sum := "5e9e450bd594e38dab570e24f62a0f034a573964a927b1597cf4230d27df96ea", func := "lamplighter/lamplighterlaw07.PersStays", spec := "persStays", unfollowed := true, recurses := true, apart := false }
def PersStaysSaid : Prop := persStaysRow.holds Try.pinned (OpenSpec.ofChange persStaysSpec)

/-- ITS FALSE NEIGHBOUR: 'it returns false'. Refute it at one input. -/
def persStaysWrong : ChangeSpec := { name := "persStays", fn := fun _ => fun
  | [d1, d2, d3] => { results := [.lit (.bool false)], args := [d1, d2, d3] }
  | _ => none }
def PersStaysWrongFalsely : Prop := persStaysRow.holds Try.pinned (OpenSpec.ofChange persStaysWrong)

/-- 'lamplighterlaw07.PersTells': WHATEVER THE INPUT: true; the input reads as it did. -/
def persTellsSpec : ChangeSpec := { name := "persTells", fn := fun _ => fun
  | [d1, d2] => { results := [.lit (.bool true)], args := [d1, d2] }
  | _ => none }
def persTellsRow : OpenClaim := { program := "ytcnoaflojojfkaa", sum := "5e9e450bd594e38dab570e24f62a0f034a573964a927b1597cf4230d27df96ea", func := "lamplighter/lamplighterlaw07.PersTells", spec := "persTells", unfollowed := true, recurses := true, apart := false }
def PersTellsSaid : Prop := persTellsRow.holds Try.pinned (OpenSpec.ofChange persTellsSpec)

/-- ITS FALSE NEIGHBOUR: 'it returns false'. Refute it at one input. -/
def persTellsWrong : ChangeSpec := { name := "persTells", fn := fun _ => fun
  | [d1, d2] => { results := [.lit (.bool false)], args := [d1, d2] }
  | _ => none }
def PersTellsWrongFalsely : Prop := persTellsRow.holds Try.pinned (OpenSpec.ofChange persTellsWrong)

/-- 'lamplighterlaw06.FifoPlays': WHATEVER THE INPUT: true; the input reads as it did. -/
def fifoPlaysSpec : ChangeSpec := { name := "fifoPlays", fn := fun _ => fun
  | [d1, d2] => { results := [.lit (.bool true)], args := [d1, d2] }
  | _ => none }
def fifoPlaysRow : OpenClaim := { program := "ytcnoaflojojfkaa", sum := "5e9e450bd594e38dab570e24f62a0f034a573964a927b1597cf4230d27df96ea", func := "lamplighter/lamplighterlaw06.FifoPlays", spec := "fifoPlays", apart := false }
def FifoPlaysSaid : Prop := fifoPlaysRow.holds Try.pinned (OpenSpec.ofChange fifoPlaysSpec)

/-- ITS FALSE NEIGHBOUR: 'it returns false'. Refute it at one input. -/
def fifoPlaysWrong : ChangeSpec := { name := "fifoPlays", fn := fun _ => fun
  | [d1, d2] => { results := [.lit (.bool false)], args := [d1, d2] }
  | _ => none }
def FifoPlaysWrongFalsely : Prop := fifoPlaysRow.holds Try.pinned (OpenSpec.ofChange fifoPlaysWrong)

/-- 'lamplighterlaw06.FifoTells': WHATEVER THE INPUT: true; the input reads as it did. -/
def fifoTellsSpec : ChangeSpec := { name := "fifoTells", fn := fun _ => fun
  | [d1, d2] => { results := [.lit (.bool true)], args := [d1, d2] }
  | _ => none }
def fifoTellsRow : OpenClaim := { program := "ytcnoaflojojfkaa", sum := "5e9e450bd594e38dab570e24f62a0f034a573964a927b1597cf4230d27df96ea", func := "lamplighter/lamplighterlaw06.FifoTells", spec := "fifoTells", unfollowed := true, recurses := true, apart := false }
def FifoTellsSaid : Prop := fifoTellsRow.holds Try.pinned (OpenSpec.ofChange fifoTellsSpec)

/-- ITS FALSE NEIGHBOUR: 'it returns false'. Refute it at one input. -/
def fifoTellsWrong : ChangeSpec := { name := "fifoTells", fn := fun _ => fun
  | [d1, d2] => { results := [.lit (.bool false)], args := [d1, d2] }
  | _ => none }
def FifoTellsWrongFalsely : Prop := fifoTellsRow.holds Try.pinned (OpenSpec.ofChange fifoTellsWrong)

/-- 'lamplighterlaw36.AlignPlays': WHATEVER THE INPUT: true; the input reads as it did. -/
def alignPlaysSpec : ChangeSpec := { name := "alignPlays", fn := fun _ => fun
  | [d1, d2] => { results := [.lit (.bool true)], args := [d1, d2] }
  | _ => none }
def alignPlaysRow : OpenClaim := { program := "ytcnoaflojojfkaa", sum := "5e9e450bd594e38dab570e24f62a0f034a573964a927b1597cf4230d27df96ea", func := "lamplighter/lamplighterlaw36.AlignPlays", spec := "alignPlays", apart := false }
def AlignPlaysSaid : Prop := alignPlaysRow.holds Try.pinned (OpenSpec.ofChange alignPlaysSpec)

/-- ITS FALSE NEIGHBOUR: 'it returns false'. Refute it at one input. -/
def alignPlaysWrong : ChangeSpec := { name := "alignPlays", fn := fun _ => fun
  | [d1, d2] => { results := [.lit (.bool false)], args := [d1, d2] }
  | _ => none }
def AlignPlaysWrongFalsely : Prop := alignPlaysRow.holds Try.pinned (OpenSpec.ofChange alignPlaysWrong)

/-- 'lamplighterlaw36.AlignBehind': WHATEVER THE INPUT: true; the input reads as it did. -/
def alignBehindSpec : ChangeSpec := { name := "alignBehind", fn := fun _ => fun
  | [d1, d2, d3] => { results := [.lit (.bool true)], args := [d1, d2, d3] }
  | _ => none }
def alignBehindRow : OpenClaim := { program := "ytcnoaflojojfkaa", sum := "5e9e450bd594e38dab570e24f62a0f034a573964a927b1597cf4230d27df96ea", func := "lamplighter/lamplighterlaw36.AlignBehind", spec := "alignBehind", apart := false }
def AlignBehindSaid : Prop := alignBehindRow.holds Try.pinned (OpenSpec.ofChange alignBehindSpec)

/-- ITS FALSE NEIGHBOUR: 'it returns false'. Refute it at one input. -/
def alignBehindWrong : ChangeSpec := { name := "alignBehind", fn := fun _ => fun
  | [d1, d2, d3] => { results := [.lit (.bool false)], args := [d1, d2, d3] }
  | _ => none }
def AlignBehindWrongFalsely : Prop := alignBehindRow.holds Try.pinned (OpenSpec.ofChange alignBehindWrong)

/-- 'lamplighterlaw40.MsgSame': WHATEVER THE INPUT: true; the input reads as it did. -/
def msgSameSpec : ChangeSpec := { name := "msgSame", fn := fun _ => fun
  | [d1, d2] => { results := [.lit (.bool true)], args := [d1, d2] }
  | _ => none }
def msgSameRow : OpenClaim := { program := "ytcnoaflojojfkaa", sum := "5e9e450bd594e38dab570e24f62a0f034a573964a927b1597cf4230d27df96ea", func := "lamplighter/lamplighterlaw40.MsgSame", spec := "msgSame", unfollowed := true, recurses := true, apart := false }
def MsgSameSaid : Prop := msgSameRow.holds Try.pinned (OpenSpec.ofChange msgSameSpec)

/-- ITS FALSE NEIGHBOUR: 'it returns false'. Refute it at one input. -/
def msgSameWrong : ChangeSpec := { name := "msgSame", fn := fun _ => fun
  | [d1, d2] => { results := [.lit (.bool false)], args := [d1, d2] }
  | _ => none }
def MsgSameWrongFalsely : Prop := msgSameRow.holds Try.pinned (OpenSpec.ofChange msgSameWrong)

/-- 'lamplighterlaw40.MsgGoes': WHATEVER THE INPUT: true; the input reads as it did. -/
def msgGoesSpec : ChangeSpec := { name := "msgGoes", fn := fun _ => fun
  | [d1, d2] => { results := [.lit (.bool true)], args := [d1, d2] }
  | _ => none }
def msgGoesRow : OpenClaim := { program := "ytcnoaflojojfkaa", sum := "5e9e450bd594e38dab570e24f62a0f034a573964a927b1597cf4230d27df96ea", func := "lamplighter/lamplighterlaw40.MsgGoes", spec := "msgGoes", unfollowed := true, recurses := true, apart := false }
def MsgGoesSaid : Prop := msgGoesRow.holds Try.pinned (OpenSpec.ofChange msgGoesSpec)

/-- ITS FALSE NEIGHBOUR: 'it returns false'. Refute it at one input. -/
def msgGoesWrong : ChangeSpec := { name := "msgGoes", fn := fun _ => fun
  | [d1, d2] => { results := [.lit (.bool false)], args := [d1, d2] }
  | _ => none }
def MsgGoesWrongFalsely : Prop := msgGoesRow.holds Try.pinned (OpenSpec.ofChange msgGoesWrong)

/- THE SECOND FORM. 'bulk': how many values and letters a reading holds, each counted each time it is reached (what is shared counts as often as it is met; a slice's spare places count too). A statement '..UptoSaid' is the law's where the arguments, and the package variables that the reading takes, are together of bulk at most 1048576: NARROWER than '..Said'. Prove '..Said' where nothing that the law and all that it calls make is longer than what came in: it says more and counts as full. Else prove '..UptoSaid'. A law counts once. -/
mutual
def uptoBulk {H : Type} : DataW H → Nat
  | .lit (.string bytes) => bytes.length + 1
  | .lit _ => 1
  | .nil => 1
  | .ptr d => uptoBulk d + 1
  | .slice elems spare => uptoBulkAll elems + uptoBulkAll spare + 1
  | .agg parts => uptoBulkAll parts + 1
  | .iface _ d => uptoBulk d + 1
  | .map entries => uptoBulkEntries entries + 1
  | .held _ => 1
def uptoBulkAll {H : Type} : List (DataW H) → Nat
  | [] => 0
  | d :: r => uptoBulk d + uptoBulkAll r
def uptoBulkEntries {H : Type} : List (Lit × DataW H) → Nat
  | [] => 0
  | x :: r => uptoBulkEntry x + uptoBulkEntries r
def uptoBulkEntry {H : Type} : Lit × DataW H → Nat
  | (.string bytes, d) => bytes.length + uptoBulk d + 1
  | (_, d) => uptoBulk d + 1
 end
def uptoSmall : (H : Type) → List (DataW H) → Bool := fun _ ds => decide (uptoBulkAll ds ≤ 1048576)
def OpenSpec.upto (s : _root_.Go.ChangeSpec) : _root_.Go.OpenSpec := { _root_.Go.OpenSpec.ofChange s with cond := some uptoSmall }

/-- 'lamplighterlaw27.MarkGoes', WHERE WHAT IT READS IS OF BULK AT MOST 1048576: true; the input reads as it did. -/
def markGoesUptoRow : OpenClaim := { program := "ytcnoaflojojfkaa", sum := "5e9e450bd594e38dab570e24f62a0f034a573964a927b1597cf4230d27df96ea", func := "lamplighter/lamplighterlaw27.MarkGoes", spec := "markGoes", apart := false, narrowed := true }
def MarkGoesUptoSaid : Prop := markGoesUptoRow.holds Try.pinned (OpenSpec.upto markGoesSpec)

/-- 'lamplighterlaw27.MarkLeast', WHERE WHAT IT READS IS OF BULK AT MOST 1048576: true; the input reads as it did. -/
def markLeastUptoRow : OpenClaim := { program := "ytcnoaflojojfkaa", sum := "5e9e450bd594e38dab570e24f62a0f034a573964a927b1597cf4230d27df96ea", func := "lamplighter/lamplighterlaw27.MarkLeast", spec := "markLeast", apart := false, narrowed := true }
def MarkLeastUptoSaid : Prop := markLeastUptoRow.holds Try.pinned (OpenSpec.upto markLeastSpec)

/-- 'lamplighterlaw16.PatParts', WHERE WHAT IT READS IS OF BULK AT MOST 1048576: true; the input reads as it did. -/
def patPartsUptoRow : OpenClaim := { program := "ytcnoaflojojfkaa", sum := "5e9e450bd594e38dab570e24f62a0f034a573964a927b1597cf4230d27df96ea", func := "lamplighter/lamplighterlaw16.PatParts", spec := "patParts", apart := false, narrowed := true }
def PatPartsUptoSaid : Prop := patPartsUptoRow.holds Try.pinned (OpenSpec.upto patPartsSpec)

/-- 'lamplighterlaw16.PatScope', WHERE WHAT IT READS IS OF BULK AT MOST 1048576: true; the input reads as it did. -/
def patScopeUptoRow : OpenClaim := { program := "ytcnoaflojojfkaa", sum := "5e9e450bd594e38dab570e24f62a0f034a573964a927b1597cf4230d27df96ea", func := "lamplighter/lamplighterlaw16.PatScope", spec := "patScope", unfollowed := true, recurses := true, apart := false, narrowed := true }
def PatScopeUptoSaid : Prop := patScopeUptoRow.holds Try.pinned (OpenSpec.upto patScopeSpec)

/-- 'lamplighterlaw07.PersStays', WHERE WHAT IT READS IS OF BULK AT MOST 1048576: true; the input reads as it did. -/
def persStaysUptoRow : OpenClaim := { program := "ytcnoaflojojfkaa", sum := "5e9e450bd594e38dab570e24f62a0f034a573964a927b1597cf4230d27df96ea", func := "lamplighter/lamplighterlaw07.PersStays", spec := "persStays", unfollowed := true, recurses := true, apart := false, narrowed := true }
def PersStaysUptoSaid : Prop := persStaysUptoRow.holds Try.pinned (OpenSpec.upto persStaysSpec)

/-- 'lamplighterlaw07.PersTells', WHERE WHAT IT READS IS OF BULK AT MOST 1048576: true; the input reads as it did. -/
def persTellsUptoRow : OpenClaim := { program := "ytcnoaflojojfkaa", sum := "5e9e450bd594e38dab570e24f62a0f034a573964a927b1597cf4230d27df96ea", func := "lamplighter/lamplighterlaw07.PersTells", spec := "persTells", unfollowed := true, recurses := true, apart := false, narrowed := true }
def PersTellsUptoSaid : Prop := persTellsUptoRow.holds Try.pinned (OpenSpec.upto persTellsSpec)

/-- 'lamplighterlaw06.FifoPlays', WHERE WHAT IT READS IS OF BULK AT MOST 1048576: true; the input reads as it did. -/
def fifoPlaysUptoRow : OpenClaim := { program := "ytcnoaflojojfkaa", sum := "5e9e450bd594e38dab570e24f62a0f034a573964a927b1597cf4230d27df96ea", func := "lamplighter/lamplighterlaw06.FifoPlays", spec := "fifoPlays", apart := false, narrowed := true }
def FifoPlaysUptoSaid : Prop := fifoPlaysUptoRow.holds Try.pinned (OpenSpec.upto fifoPlaysSpec)

/-- 'lamplighterlaw06.FifoTells', WHERE WHAT IT READS IS OF BULK AT MOST 1048576: true; the input reads as it did. -/
def fifoTellsUptoRow : OpenClaim := { program := "ytcnoaflojojfkaa", sum := "5e9e450bd594e38dab570e24f62a0f034a573964a927b1597cf4230d27df96ea", func := "lamplighter/lamplighterlaw06.FifoTells", spec := "fifoTells", unfollowed := true, recurses := true, apart := false, narrowed := true }
def FifoTellsUptoSaid : Prop := fifoTellsUptoRow.holds Try.pinned (OpenSpec.upto fifoTellsSpec)

/-- 'lamplighterlaw36.AlignPlays', WHERE WHAT IT READS IS OF BULK AT MOST 1048576: true; the input reads as it did. -/
def alignPlaysUptoRow : OpenClaim := { program := "ytcnoaflojojfkaa", sum := "5e9e450bd594e38dab570e24f62a0f034a573964a927b1597cf4230d27df96ea", func := "lamplighter/lamplighterlaw36.AlignPlays", spec := "alignPlays", apart := false, narrowed := true }
def AlignPlaysUptoSaid : Prop := alignPlaysUptoRow.holds Try.pinned (OpenSpec.upto alignPlaysSpec)

/-- 'lamplighterlaw36.AlignBehind', WHERE WHAT IT READS IS OF BULK AT MOST 1048576: true; the input reads as it did. -/
def alignBehindUptoRow : OpenClaim := { program := "ytcnoaflojojfkaa", sum := "5e9e450bd594e38dab570e24f62a0f034a573964a927b1597cf4230d27df96ea", func := "lamplighter/lamplighterlaw36.AlignBehind", spec := "alignBehind", apart := false, narrowed := true }
def AlignBehindUptoSaid : Prop := alignBehindUptoRow.holds Try.pinned (OpenSpec.upto alignBehindSpec)

/-- 'lamplighterlaw40.MsgSame', WHERE WHAT IT READS IS OF BULK AT MOST 1048576: true; the input reads as it did. -/
def msgSameUptoRow : OpenClaim := { program := "ytcnoaflojojfkaa", sum := "5e9e450bd594e38dab570e24f62a0f034a573964a927b1597cf4230d27df96ea", func := "lamplighter/lamplighterlaw40.MsgSame", spec := "msgSame", unfollowed := true, recurses := true, apart := false, narrowed := true }
def MsgSameUptoSaid : Prop := msgSameUptoRow.holds Try.pinned (OpenSpec.upto msgSameSpec)

/-- 'lamplighterlaw40.MsgGoes', WHERE WHAT IT READS IS OF BULK AT MOST 1048576: true; the input reads as it did. -/
def msgGoesUptoRow : OpenClaim := { program := "ytcnoaflojojfkaa", sum := "5e9e450bd594e38dab570e24f62a0f034a573964a927b1597cf4230d27df96ea", func := "lamplighter/lamplighterlaw40.MsgGoes", spec := "msgGoes", unfollowed := true, recurses := true, apart := false, narrowed := true }
def MsgGoesUptoSaid : Prop := msgGoesUptoRow.holds Try.pinned (OpenSpec.upto msgGoesSpec)

end Rows
end Go.Proofs.Ytcnoaflojojfkaa
