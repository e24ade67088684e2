/-
  No cell of these rows narrows 'for every input' (looked for: loops, veiled, ifaces, maps, wideKeys, modest, calm, conditions, laid).
  DERIVED. THE GIVEN ROWS OF THIS SEAT. 12 by the template 'for every input the law returns true; each argument reads behind the call as it read before'; 0 by the template 'total and deterministic' (their statements: YtcnoaflojojfkacTotals.lean).
  GIVEN WITH THE SEED: the statements are not yours to turn. If you find one false, say at which input.
  Laid BY PROGRAM, IN A SANDBOX (cutbox-rows.mjs): the forced cells as the released guide's own fill.sh prints them over the translation 01b85e5ca4829a09… (all of the seat's roots in one cut). By AI agents, Wed Nov 11 2026. No macro, syntax, notation, axiom, sorry.
-/
import Derived.Test.YtcnoaflojojfkacChecked
import GoSem.Claim
import GoSem.ClaimJoined
import GoSem.ClaimMapViews
import Derived.JoinedTies
import Derived.KernelRfl
namespace Go.Proofs.Ytcnoaflojojfkac
/- THE CELL 'sum', in the pinned program and in every row, IS THE sha256 OF THE DUMP (.gsa) THAT YtcnoaflojojfkacProg.lean LOADS. Nothing in Lean hashes anything: it is a label: what it is worth is what the hold of that sum in a sandbox is worth. -/
noncomputable def Try.pinned : Pinned := { name := "ytcnoaflojojfkac", sum := "01b85e5ca4829a091f67809ca13078f32b45a09452f43f7f92687c542987b57b", checked := Try.checked }
namespace Rows
def none {H : Type} : Left H := { results := [], args := [] }

/-- 'lamplighterlaw03.SchemaNames': WHATEVER THE INPUT: true; the input reads as it did. -/
def schemaNamesSpec : ChangeSpec := { name := "schemaNames", fn := fun _ => fun
  | [d1, d2] => { results := [.lit (.bool true)], args := [d1, d2] }
  | _ => none }
def schemaNamesRow : OpenClaim := { program := "ytcnoaflojojfkac", sum := "01b85e5ca4829a091f67809ca13078f32b45a09452f43f7f92687c542987b57b", func := "lamplighter/lamplighterlaw03.SchemaNames", spec := "schemaNames", unfollowed := true, recurses := true, apart := false }
def SchemaNamesSaid : Prop := schemaNamesRow.holds Try.pinned (OpenSpec.ofChange schemaNamesSpec)

/-- ITS FALSE NEIGHBOUR: 'it returns false'. Refute it at one input. -/
def schemaNamesWrong : ChangeSpec := { name := "schemaNames", fn := fun _ => fun
  | [d1, d2] => { results := [.lit (.bool false)], args := [d1, d2] }
  | _ => none }
def SchemaNamesWrongFalsely : Prop := schemaNamesRow.holds Try.pinned (OpenSpec.ofChange schemaNamesWrong)

/-- 'lamplighterlaw03.SchemaFinds': WHATEVER THE INPUT: true; the input reads as it did. -/
def schemaFindsSpec : ChangeSpec := { name := "schemaFinds", fn := fun _ => fun
  | [d1, d2] => { results := [.lit (.bool true)], args := [d1, d2] }
  | _ => none }
def schemaFindsRow : OpenClaim := { program := "ytcnoaflojojfkac", sum := "01b85e5ca4829a091f67809ca13078f32b45a09452f43f7f92687c542987b57b", func := "lamplighter/lamplighterlaw03.SchemaFinds", spec := "schemaFinds", unfollowed := true, recurses := true, apart := false }
def SchemaFindsSaid : Prop := schemaFindsRow.holds Try.pinned (OpenSpec.ofChange schemaFindsSpec)

/-- ITS FALSE NEIGHBOUR: 'it returns false'. Refute it at one input. -/
def schemaFindsWrong : ChangeSpec := { name := "schemaFinds", fn := fun _ => fun
  | [d1, d2] => { results := [.lit (.bool false)], args := [d1, d2] }
  | _ => none }
def SchemaFindsWrongFalsely : Prop := schemaFindsRow.holds Try.pinned (OpenSpec.ofChange schemaFindsWrong)

/-- 'lamplighterlaw03.SchemaMost': WHATEVER THE INPUT: true; the input reads as it did. -/
def schemaMostSpec : ChangeSpec := { name := "schemaMost", fn := fun _ => fun
  | [d1, d2] => { results := [.lit (.bool true)], args := [d1, d2] }
  | _ => none }
def schemaMostRow : OpenClaim := { program := "ytcnoaflojojfkac", sum := "01b85e5ca4829a091f67809ca13078f32b45a09452f43f7f92687c542987b57b", func := "lamplighter/lamplighterlaw03.SchemaMost", spec := "schemaMost", unfollowed := true, recurses := true, apart := false }
def SchemaMostSaid : Prop := schemaMostRow.holds Try.pinned (OpenSpec.ofChange schemaMostSpec)

/-- ITS FALSE NEIGHBOUR: 'it returns false'. Refute it at one input. -/
def schemaMostWrong : ChangeSpec := { name := "schemaMost", fn := fun _ => fun
  | [d1, d2] => { results := [.lit (.bool false)], args := [d1, d2] }
  | _ => none }
def SchemaMostWrongFalsely : Prop := schemaMostRow.holds Try.pinned (OpenSpec.ofChange schemaMostWrong)

/-- 'lamplighterlaw34.QueuePlays': WHATEVER THE INPUT: true; the input reads as it did. -/
def queuePlaysSpec : ChangeSpec := { name := "queuePlays", fn := fun _ => fun
  | [d1, d2] => { results := [.lit (.bool true)], args := [d1, d2] }
  | _ => none }
def queuePlaysRow : OpenClaim := { program := "ytcnoaflojojfkac", sum := "01b85e5ca4829a091f67809ca13078f32b45a09452f43f7f92687c542987b57b", func := "lamplighter/lamplighterlaw34.QueuePlays", spec := "queuePlays", apart := false }
def QueuePlaysSaid : Prop := queuePlaysRow.holds Try.pinned (OpenSpec.ofChange queuePlaysSpec)

/-- ITS FALSE NEIGHBOUR: 'it returns false'. Refute it at one input. -/
def queuePlaysWrong : ChangeSpec := { name := "queuePlays", fn := fun _ => fun
  | [d1, d2] => { results := [.lit (.bool false)], args := [d1, d2] }
  | _ => none }
def QueuePlaysWrongFalsely : Prop := queuePlaysRow.holds Try.pinned (OpenSpec.ofChange queuePlaysWrong)

/-- 'lamplighterlaw34.QueueNone': WHATEVER THE INPUT: true; the input reads as it did. -/
def queueNoneSpec : ChangeSpec := { name := "queueNone", fn := fun _ => fun
  | [d] => { results := [.lit (.bool true)], args := [d] }
  | _ => none }
def queueNoneRow : OpenClaim := { program := "ytcnoaflojojfkac", sum := "01b85e5ca4829a091f67809ca13078f32b45a09452f43f7f92687c542987b57b", func := "lamplighter/lamplighterlaw34.QueueNone", spec := "queueNone", apart := false }
def QueueNoneSaid : Prop := queueNoneRow.holds Try.pinned (OpenSpec.ofChange queueNoneSpec)

/-- ITS FALSE NEIGHBOUR: 'it returns false'. Refute it at one input. -/
def queueNoneWrong : ChangeSpec := { name := "queueNone", fn := fun _ => fun
  | [d] => { results := [.lit (.bool false)], args := [d] }
  | _ => none }
def QueueNoneWrongFalsely : Prop := queueNoneRow.holds Try.pinned (OpenSpec.ofChange queueNoneWrong)

/-- 'lamplighterlaw05.HeapDrains': WHATEVER THE INPUT: true; the input reads as it did. -/
def heapDrainsSpec : ChangeSpec := { name := "heapDrains", fn := fun _ => fun
  | [d1, d2] => { results := [.lit (.bool true)], args := [d1, d2] }
  | _ => none }
def heapDrainsRow : OpenClaim := { program := "ytcnoaflojojfkac", sum := "01b85e5ca4829a091f67809ca13078f32b45a09452f43f7f92687c542987b57b", func := "lamplighter/lamplighterlaw05.HeapDrains", spec := "heapDrains", unfollowed := true, recurses := true, apart := false }
def HeapDrainsSaid : Prop := heapDrainsRow.holds Try.pinned (OpenSpec.ofChange heapDrainsSpec)

/-- ITS FALSE NEIGHBOUR: 'it returns false'. Refute it at one input. -/
def heapDrainsWrong : ChangeSpec := { name := "heapDrains", fn := fun _ => fun
  | [d1, d2] => { results := [.lit (.bool false)], args := [d1, d2] }
  | _ => none }
def HeapDrainsWrongFalsely : Prop := heapDrainsRow.holds Try.pinned (OpenSpec.ofChange heapDrainsWrong)

/-- 'lamplighterlaw05.HeapPlays': WHATEVER THE INPUT: true; the input reads as it did. -/
def heapPlaysSpec : ChangeSpec := { name := "heapPlays", fn := fun _ => fun
  | [d] => { results := [.lit (.bool true)], args := [d] }
  | _ => none }
def heapPlaysRow : OpenClaim := { program := "ytcnoaflojojfkac", sum := "01b85e5ca4829a091f67809ca13078f32b45a09452f43f7f92687c542987b57b", func := "lamplighter/lamplighterlaw05.HeapPlays", spec := "heapPlays", unfollowed := true, recurses := true, apart := false }
def HeapPlaysSaid : Prop := heapPlaysRow.holds Try.pinned (OpenSpec.ofChange heapPlaysSpec)

/-- ITS FALSE NEIGHBOUR: 'it returns false'. Refute it at one input. -/
def heapPlaysWrong : ChangeSpec := { name := "heapPlays", fn := fun _ => fun
  | [d] => { results := [.lit (.bool false)], args := [d] }
  | _ => none }
def HeapPlaysWrongFalsely : Prop := heapPlaysRow.holds Try.pinned (OpenSpec.ofChange heapPlaysWrong)

/-- 'lamplighterlaw26.ReorderPlays': WHATEVER THE INPUT: true; the input reads as it did. -/
def reorderPlaysSpec : ChangeSpec := { name := "reorderPlays", fn := fun _ => fun
  | [d1, d2] => { results := [.lit (.bool true)], args := [d1, d2] }
  | _ => none }
def reorderPlaysRow : OpenClaim := { program := "ytcnoaflojojfkac", sum := "01b85e5ca4829a091f67809ca13078f32b45a09452f43f7f92687c542987b57b", func := "lamplighter/lamplighterlaw26.ReorderPlays", spec := "reorderPlays", unfollowed := true, recurses := true, apart := false }
def ReorderPlaysSaid : Prop := reorderPlaysRow.holds Try.pinned (OpenSpec.ofChange reorderPlaysSpec)

/-- ITS FALSE NEIGHBOUR: 'it returns false'. Refute it at one input. -/
def reorderPlaysWrong : ChangeSpec := { name := "reorderPlays", fn := fun _ => fun
  | [d1, d2] => { results := [.lit (.bool false)], args := [d1, d2] }
  | _ => none }
def ReorderPlaysWrongFalsely : Prop := reorderPlaysRow.holds Try.pinned (OpenSpec.ofChange reorderPlaysWrong)

/-- 'lamplighterlaw26.ReorderNone': WHATEVER THE INPUT: true; the input reads as it did. -/
def reorderNoneSpec : ChangeSpec := { name := "reorderNone", fn := fun _ => fun
  | [d] => { results := [.lit (.bool true)], args := [d] }
  | _ => none }
def reorderNoneRow : OpenClaim := { program := "ytcnoaflojojfkac", sum := "01b85e5ca4829a091f67809ca13078f32b45a09452f43f7f92687c542987b57b", func := "lamplighter/lamplighterlaw26.ReorderNone", spec := "reorderNone", unfollowed := true, recurses := true, apart := false }
def ReorderNoneSaid : Prop := reorderNoneRow.holds Try.pinned (OpenSpec.ofChange reorderNoneSpec)

/-- ITS FALSE NEIGHBOUR: 'it returns false'. Refute it at one input. -/
def reorderNoneWrong : ChangeSpec := { name := "reorderNone", fn := fun _ => fun
  | [d] => { results := [.lit (.bool false)], args := [d] }
  | _ => none }
def ReorderNoneWrongFalsely : Prop := reorderNoneRow.holds Try.pinned (OpenSpec.ofChange reorderNoneWrong)

/-- 'lamplighterlaw09.OmapTexts': WHATEVER THE INPUT: true; the input reads as it did. -/
def omapTextsSpec : ChangeSpec := { name := "omapTexts", fn := fun _ => fun
  | [d] => { results := [.lit (.bool true)], args := [d] }
  | _ => none }
def omapTextsRow : OpenClaim := { program := "ytcnoaflojojfkac", sum := "01b85e5ca4829a091f67809ca13078f32b45a09452f43f7f92687c542987b57b", func := "lamplighter/lamplighterlaw09.OmapTexts", spec := "omapTexts", inPlace := ["slices.overlaps[string]", "slices.overlaps[int]"], apart := false }
def OmapTextsSaid : Prop := omapTextsRow.holds Try.pinned (OpenSpec.ofChange omapTextsSpec)

/-- ITS FALSE NEIGHBOUR: 'it returns false'. Refute it at one input. -/
def omapTextsWrong : ChangeSpec := { name := "omapTexts", fn := fun _ => fun
  | [d] => { results := [.lit (.bool false)], args := [d] }
  | _ => none }
def OmapTextsWrongFalsely : Prop := omapTextsRow.holds Try.pinned (OpenSpec.ofChange omapTextsWrong)

/-- 'lamplighterlaw09.OmapTells': WHATEVER THE INPUT: true; the input reads as it did. -/
def omapTellsSpec : ChangeSpec := { name := "omapTells", fn := fun _ => fun
  | [d1, d2, d3] => { results := [.lit (.bool true)], args := [d1, d2, d3] }
  | _ => none }
def omapTellsRow : OpenClaim := { program := "ytcnoaflojojfkac", sum := "01b85e5ca4829a091f67809ca13078f32b45a09452f43f7f92687c542987b57b", func := "lamplighter/lamplighterlaw09.OmapTells", spec := "omapTells", inPlace := ["slices.overlaps[string]", "slices.overlaps[int]"], unfollowed := true, recurses := true, apart := false }
def OmapTellsSaid : Prop := omapTellsRow.holds Try.pinned (OpenSpec.ofChange omapTellsSpec)

/-- ITS FALSE NEIGHBOUR: 'it returns false'. Refute it at one input. -/
def omapTellsWrong : ChangeSpec := { name := "omapTells", fn := fun _ => fun
  | [d1, d2, d3] => { results := [.lit (.bool false)], args := [d1, d2, d3] }
  | _ => none }
def OmapTellsWrongFalsely : Prop := omapTellsRow.holds Try.pinned (OpenSpec.ofChange omapTellsWrong)

/-- 'lamplighterlaw09.OmapPlays': WHATEVER THE INPUT: true; the input reads as it did. -/
def omapPlaysSpec : ChangeSpec := { name := "omapPlays", fn := fun _ => fun
  | [d1, d2, d3] => { results := [.lit (.bool true)], args := [d1, d2, d3] }
  | _ => none }
def omapPlaysRow : OpenClaim := { program := "ytcnoaflojojfkac", sum := "01b85e5ca4829a091f67809ca13078f32b45a09452f43f7f92687c542987b57b", func := "lamplighter/lamplighterlaw09.OmapPlays", spec := "omapPlays", inPlace := ["slices.overlaps[string]", "slices.overlaps[int]"], unfollowed := true, recurses := true, apart := false }
def OmapPlaysSaid : Prop := omapPlaysRow.holds Try.pinned (OpenSpec.ofChange omapPlaysSpec)

/-- ITS FALSE NEIGHBOUR: 'it returns false'. Refute it at one input. -/
def omapPlaysWrong : ChangeSpec := { name := "omapPlays", fn := fun _ => fun
  | [d1, d2, d3] => { results := [.lit (.bool false)], args := [d1, d2, d3] }
  | _ => none }
def OmapPlaysWrongFalsely : Prop := omapPlaysRow.holds Try.pinned (OpenSpec.ofChange omapPlaysWrong)

/- THE SECOND FORM. 'bulk': how many values and letters a reading holds, each counted each time it is reached (what is shared counts as often as it is met; a slice's spare places count too). A statement '..UptoSaid' is the law's where the arguments, and the package variables that the reading takes, are together of bulk at most 1048576: NARROWER than '..Said'. Prove '..Said' where nothing that the law and all that it calls make is longer than what came in: it says more and counts as full. Else prove '..UptoSaid'. A law counts once. -/
mutual
def uptoBulk {H : Type} : DataW H → Nat
  | .lit (.string bytes) => bytes.length + 1
  | .lit _ => 1
  | .nil => 1
  | .ptr d => uptoBulk d + 1
  | .slice elems spare => uptoBulkAll elems + uptoBulkAll spare + 1
  | .agg parts => uptoBulkAll parts + 1
  | .iface _ d => uptoBulk d + 1
  | .map entries => uptoBulkEntries entries + 1
  | .held _ => 1
def uptoBulkAll {H : Type} : List (DataW H) → Nat
  | [] => 0
  | d :: r => uptoBulk d + uptoBulkAll r
def uptoBulkEntries {H : Type} : List (Lit × DataW H) → Nat
  | [] => 0
  | x :: r => uptoBulkEntry x + uptoBulkEntries r
def uptoBulkEntry {H : Type} : Lit × DataW H → Nat
  | (.string bytes, d) => bytes.length + uptoBulk d + 1
  | (_, d) => uptoBulk d + 1
 end
def uptoSmall : (H : Type) → List (DataW H) → Bool := fun _ ds => decide (uptoBulkAll ds ≤ 1048576)
def OpenSpec.upto (s : _root_.Go.ChangeSpec) : _root_.Go.OpenSpec := { _root_.Go.OpenSpec.ofChange s with cond := some uptoSmall }

/-- 'lamplighterlaw03.SchemaNames', WHERE WHAT IT READS IS OF BULK AT MOST 1048576: true; the input reads as it did. -/
def schemaNamesUptoRow : OpenClaim := { program := "ytcnoaflojojfkac", sum := "01b85e5ca4829a091f67809ca13078f32b45a09452f43f7f92687c542987b57b", func := "lamplighter/lamplighterlaw03.SchemaNames", spec := "schemaNames", unfollowed := true, recurses := true, apart := false, narrowed := true }
def SchemaNamesUptoSaid : Prop := schemaNamesUptoRow.holds Try.pinned (OpenSpec.upto schemaNamesSpec)

/-- 'lamplighterlaw03.SchemaFinds', WHERE WHAT IT READS IS OF BULK AT MOST 1048576: true; the input reads as it did. -/
def schemaFindsUptoRow : OpenClaim := { program := "ytcnoaflojojfkac", sum := "01b85e5ca4829a091f67809ca13078f32b45a09452f43f7f92687c542987b57b", func := "lamplighter/lamplighterlaw03.SchemaFinds", spec := "schemaFinds", unfollowed := true, recurses := true, apart := false, narrowed := true }
def SchemaFindsUptoSaid : Prop := schemaFindsUptoRow.holds Try.pinned (OpenSpec.upto schemaFindsSpec)

/-- 'lamplighterlaw03.SchemaMost', WHERE WHAT IT READS IS OF BULK AT MOST 1048576: true; the input reads as it did. -/
def schemaMostUptoRow : OpenClaim := { program := "ytcnoaflojojfkac", sum := "01b85e5ca4829a091f67809ca13078f32b45a09452f43f7f92687c542987b57b", func := "lamplighter/lamplighterlaw03.SchemaMost", spec := "schemaMost", unfollowed := true, recurses := true, apart := false, narrowed := true }
def SchemaMostUptoSaid : Prop := schemaMostUptoRow.holds Try.pinned (OpenSpec.upto schemaMostSpec)

/-- 'lamplighterlaw34.QueuePlays', WHERE WHAT IT READS IS OF BULK AT MOST 1048576: true; the input reads as it did. -/
def queuePlaysUptoRow : OpenClaim := { program := "ytcnoaflojojfkac", sum := "01b85e5ca4829a091f67809ca13078f32b45a09452f43f7f92687c542987b57b", func := "lamplighter/lamplighterlaw34.QueuePlays", spec := "queuePlays", apart := false, narrowed := true }
def QueuePlaysUptoSaid : Prop := queuePlaysUptoRow.holds Try.pinned (OpenSpec.upto queuePlaysSpec)

/-- 'lamplighterlaw34.QueueNone', WHERE WHAT IT READS IS OF BULK AT MOST 1048576: true; the input reads as it did. -/
def queueNoneUptoRow : OpenClaim := { program := "ytcnoaflojojfkac", sum := "01b85e5ca4829a091f67809ca13078f32b45a09452f43f7f92687c542987b57b", func := "lamplighter/lamplighterlaw34.QueueNone", spec := "queueNone", apart := false, narrowed := true }
def QueueNoneUptoSaid : Prop := queueNoneUptoRow.holds Try.pinned (OpenSpec.upto queueNoneSpec)

/-- 'lamplighterlaw05.HeapDrains', WHERE WHAT IT READS IS OF BULK AT MOST 1048576: true; the input reads as it did. -/
def heapDrainsUptoRow : OpenClaim := { program := "ytcnoaflojojfkac", sum := "01b85e5ca4829a091f67809ca13078f32b45a09452f43f7f92687c542987b57b", func := "lamplighter/lamplighterlaw05.HeapDrains", spec := "heapDrains", unfollowed := true, recurses := true, apart := false, narrowed := true }
def HeapDrainsUptoSaid : Prop := heapDrainsUptoRow.holds Try.pinned (OpenSpec.upto heapDrainsSpec)

/-- 'lamplighterlaw05.HeapPlays', WHERE WHAT IT READS IS OF BULK AT MOST 1048576: true; the input reads as it did. -/
def heapPlaysUptoRow : OpenClaim := { program := "ytcnoaflojojfkac", sum := "01b85e5ca4829a091f67809ca13078f32b45a09452f43f7f92687c542987b57b", func := "lamplighter/lamplighterlaw05.HeapPlays", spec := "heapPlays", unfollowed := true, recurses := true, apart := false, narrowed := true }
def HeapPlaysUptoSaid : Prop := heapPlaysUptoRow.holds Try.pinned (OpenSpec.upto heapPlaysSpec)

/-- 'lamplighterlaw26.ReorderPlays', WHERE WHAT IT READS IS OF BULK AT MOST 1048576: true; the input reads as it did. -/
def reorderPlaysUptoRow : OpenClaim := { program := "ytcnoaflojojfkac", sum := "01b85e5ca4829a091f67809ca13078f32b45a09452f43f7f92687c542987b57b", func := "lamplighter/lamplighterlaw26.ReorderPlays", spec := "reorderPlays", unfollowed := true, recurses := true, apart := false, narrowed := true }
def ReorderPlaysUptoSaid : Prop := reorderPlaysUptoRow.holds Try.pinned (OpenSpec.upto reorderPlaysSpec)

/-- 'lamplighterlaw26.ReorderNone', WHERE WHAT IT READS IS OF BULK AT MOST 1048576: true; the input reads as it did. -/
def reorderNoneUptoRow : OpenClaim := { program := "ytcnoaflojojfkac", sum := "01b85e5ca4829a091f67809ca13078f32b45a09452f43f7f92687c542987b57b", func := "lamplighter/lamplighterlaw26.ReorderNone", spec := "reorderNone", unfollowed := true, recurses := true, apart := false, narrowed := true }
def ReorderNoneUptoSaid : Prop := reorderNoneUptoRow.holds Try.pinned (OpenSpec.upto reorderNoneSpec)

/-- 'lamplighterlaw09.OmapTexts', WHERE WHAT IT READS IS OF BULK AT MOST 1048576: true; the input reads as it did. -/
def omapTextsUptoRow : OpenClaim := { program := "ytcnoaflojojfkac", sum := "01b85e5ca4829a091f67809ca13078f32b45a09452f43f7f92687c542987b57b", func := "lamplighter/lamplighterlaw09.OmapTexts", spec := "omapTexts", inPlace := ["slices.overlaps[string]", "slices.overlaps[int]"], apart := false, narrowed := true }
def OmapTextsUptoSaid : Prop := omapTextsUptoRow.holds Try.pinned (OpenSpec.upto omapTextsSpec)

/-- 'lamplighterlaw09.OmapTells', WHERE WHAT IT READS IS OF BULK AT MOST 1048576: true; the input reads as it did. -/
def omapTellsUptoRow : OpenClaim := { program := "ytcnoaflojojfkac", sum := "01b85e5ca4829a091f67809ca13078f32b45a09452f43f7f92687c542987b57b", func := "lamplighter/lamplighterlaw09.OmapTells", spec := "omapTells", inPlace := ["slices.overlaps[string]", "slices.overlaps[int]"], unfollowed := true, recurses := true, apart := false, narrowed := true }
def OmapTellsUptoSaid : Prop := omapTellsUptoRow.holds Try.pinned (OpenSpec.upto omapTellsSpec)

/-- 'lamplighterlaw09.OmapPlays', WHERE WHAT IT READS IS OF BULK AT MOST 1048576: true; the input reads as it did. -/
def omapPlaysUptoRow : OpenClaim := { program := "ytcnoaflojojfkac", sum := "01b85e5ca4829a091f67809ca13078f32b45a09452f43f7f92687c542987b57b", func := "lamplighter/lamplighterlaw09.OmapPlays", spec := "omapPlays", inPlace := ["slices.overlaps[string]", "slices.overlaps[int]"], unfollowed := true, recurses := true, apart := false, narrowed := true }
def OmapPlaysUptoSaid : Prop := omapPlaysUptoRow.holds Try.pinned (OpenSpec.upto omapPlaysSpec)

end Rows
end Go.Proofs.Ytcnoaflojojfkac
