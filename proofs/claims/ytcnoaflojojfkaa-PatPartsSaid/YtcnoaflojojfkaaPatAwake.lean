/- The law's own awake call: true, and it leaves all as it was. No condition. -/
import Derived.Test.YtcnoaflojojfkaaPat
namespace Go.Proofs.Ytcnoaflojojfkaa.Pat
open Go.RowKit
set_option linter.unusedVariables false
set_option linter.unusedSimpArgs false
set_option maxRecDepth 100000
def aw : List El := [⟨⟨#[97]⟩, none, 0, 0, false, 1, 2, none, 0, 0⟩, ⟨⟨#[98]⟩, none, 0, 0, true, 1, 1, none, 0, 0⟩, ⟨⟨#[99]⟩, none, 0, 0, false, 1, 1, none, 0, 0⟩]
theorem awake_any (w : World) : Calls Try.prog 22 #[] w fun e w' => e = .returned (.bool true) ∧ Fr [] w w' := by
  obtain ⟨w1, hw1⟩ : ∃ x, x = w.alloc (.cells (qcells aw).toArray 43) := ⟨_, rfl⟩
  obtain ⟨w2, hw2⟩ : ∃ x, x = w1.alloc (.cells #[.slice (some ⟨w.heap.size, 0, none⟩) 3 3, .int .i64 0, .int .i64 0] 38) := ⟨_, rfl⟩
  have hR : Reads w2 6 (.slice (some ⟨w.heap.size, 0, none⟩) aw.length 3) aw.length (qcells aw) := by
    refine ⟨rfl, _, _, rfl, by decide, .inr ⟨_, _, rfl, fun j u hu => ?_⟩⟩
    have hb : Blk w1 w.heap.size (qcells aw) 43 := by rw [hw1]; exact Blk.new w _ _
    rw [hw2, (hb.alloc _).cell, Nat.zero_add]; exact hu
  have hq : Blk w2 (w.heap.size + 1) [.slice (some ⟨w.heap.size, 0, none⟩) 3 3, .int .i64 0, .int .i64 0] 38 := by
    have := Blk.new w1 [.slice (some ⟨w.heap.size, 0, none⟩) 3 3, .int .i64 0, .int .i64 0] 38
    rw [hw2]
    rw [show w1.heap.size = w.heap.size + 1 by rw [hw1]; simp] at this
    exact this
  have hF : Fr [] w w2 := by rw [hw2, hw1]; exact ((Fr.refl [] w).alloc _).alloc _
  go_enter Try.func22, Try.ntmps22
  go_wp2_with fail
  generalize hW : World.alloc (World.alloc w _) _ = W
  obtain rfl : w2 = W := by rw [← hW, hw2, hw1]; rfl
  have HR2 := Lib.hid hR
  have HQ2 := Lib.hid hq
  have HF2 := Lib.hid hF
  clear hW hw2 hw1 hR hq hF
  refine (next_any _ 3 _ _ aw 0 (by decide) w2 HR2.out (by decide)).mono ?_
  rintro e w3 ⟨rfl, hF3⟩
  have e2 : nextOf aw ((0 : Int) + 1).toNat = 2 := rfl
  rw [e2]
  clear e2
  have HR3 : Hid (Reads w3 6 (.slice (some ⟨w.heap.size, 0, none⟩) aw.length 3) aw.length (qcells aw)) := HR2.out.fr0 hF3
  have HF3 : Hid (Fr [] w w3) := HF2.out.trans0 hF3
  have HQ3 : Hid (Blk w3 (w.heap.size + 1) [.slice (some ⟨w.heap.size, 0, none⟩) 3 3, .int .i64 0, .int .i64 0] 38) := HQ2.out.fr hF3 (by simp)
  have q0 := HQ3.out.cell_at (o := 0) rfl
  have q1 := HQ3.out.cell_at (o := 1) rfl
  have q2 := HQ3.out.cell_at (o := 2) rfl
  clear hF3
  go_wp2_with fail
  clear q0 q1 q2
  refine (between_any _ 3 _ _ aw 0 (by decide) w3 HR3.out (by decide)).mono ?_
  rintro e w4 ⟨a', c', rfl, hV, hF4⟩
  have e2 : negs aw ((0 : Int) + 1).toNat = 1 := rfl
  rw [e2]
  clear e2 hV
  have HR4 : Hid (Reads w4 6 (.slice (some ⟨w.heap.size, 0, none⟩) aw.length 3) aw.length (qcells aw)) := HR3.out.fr0 hF4
  have HF4 : Hid (Fr [] w w4) := HF3.out.trans0 hF4
  have HQ4 : Hid (Blk w4 (w.heap.size + 1) [.slice (some ⟨w.heap.size, 0, none⟩) 3 3, .int .i64 0, .int .i64 0] 38) := HQ3.out.fr hF4 (by simp)
  have q0 := HQ4.out.cell_at (o := 0) rfl
  have q1 := HQ4.out.cell_at (o := 1) rfl
  have q2 := HQ4.out.cell_at (o := 2) rfl
  clear hF4
  go_wp2_with fail
  clear q0 q1 q2
  refine (last_any _ 3 _ _ aw w4 HR4.out (by decide)).mono ?_
  rintro e w5 ⟨rfl, hF5⟩
  have e2 : lastOf aw aw.length = 2 := rfl
  rw [e2]
  clear e2
  have HR5 : Hid (Reads w5 6 (.slice (some ⟨w.heap.size, 0, none⟩) aw.length 3) aw.length (qcells aw)) := HR4.out.fr0 hF5
  have HF5 : Hid (Fr [] w w5) := HF4.out.trans0 hF5
  have HQ5 : Hid (Blk w5 (w.heap.size + 1) [.slice (some ⟨w.heap.size, 0, none⟩) 3 3, .int .i64 0, .int .i64 0] 38) := HQ4.out.fr hF5 (by simp)
  have q0 := HQ5.out.cell_at (o := 0) rfl
  have q1 := HQ5.out.cell_at (o := 1) rfl
  have q2 := HQ5.out.cell_at (o := 2) rfl
  clear hF5
  go_wp2_with fail
  clear q0 q1 q2
  refine (most_any _ 3 _ _ aw w5 HR5.out (by decide)).mono ?_
  rintro e w6 ⟨rfl, hF6⟩
  have e2 : sumOf El.mx aw aw.length = 3 := rfl
  rw [e2]
  clear e2
  have HR6 : Hid (Reads w6 6 (.slice (some ⟨w.heap.size, 0, none⟩) aw.length 3) aw.length (qcells aw)) := HR5.out.fr0 hF6
  have HF6 : Hid (Fr [] w w6) := HF5.out.trans0 hF6
  have HQ6 : Hid (Blk w6 (w.heap.size + 1) [.slice (some ⟨w.heap.size, 0, none⟩) 3 3, .int .i64 0, .int .i64 0] 38) := HQ5.out.fr hF6 (by simp)
  have q0 := HQ6.out.cell_at (o := 0) rfl
  have q1 := HQ6.out.cell_at (o := 1) rfl
  have q2 := HQ6.out.cell_at (o := 2) rfl
  clear hF6
  go_wp2_with fail
  clear q0 q1 q2
  refine (least_any _ 3 _ _ aw w6 HR6.out (by decide)).mono ?_
  rintro e w7 ⟨rfl, hF7⟩
  have e2 : sumOf El.mn aw aw.length = 2 := rfl
  rw [e2]
  clear e2
  have HR7 : Hid (Reads w7 6 (.slice (some ⟨w.heap.size, 0, none⟩) aw.length 3) aw.length (qcells aw)) := HR6.out.fr0 hF7
  have HF7 : Hid (Fr [] w w7) := HF6.out.trans0 hF7
  have HQ7 : Hid (Blk w7 (w.heap.size + 1) [.slice (some ⟨w.heap.size, 0, none⟩) 3 3, .int .i64 0, .int .i64 0] 38) := HQ6.out.fr hF7 (by simp)
  have q0 := HQ7.out.cell_at (o := 0) rfl
  have q1 := HQ7.out.cell_at (o := 1) rfl
  have q2 := HQ7.out.cell_at (o := 2) rfl
  clear hF7
  go_wp2_with fail
  clear q0 q1 q2
  go_ret
  exact ⟨rfl, HF7.out⟩
end Go.Proofs.Ytcnoaflojojfkaa.Pat
