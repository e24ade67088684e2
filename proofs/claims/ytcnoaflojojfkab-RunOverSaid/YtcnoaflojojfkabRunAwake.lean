/- lamplighterlaw22.awake. No condition. -/
import Derived.Test.YtcnoaflojojfkabRunDead
namespace Go.Proofs.Ytcnoaflojojfkab.Rn
open Go.RowKit Go.Proofs.Ytcnoaflojojfkab.Pat Go.Proofs.Ytcnoaflojojfkab.Qry Go.Proofs.Ytcnoaflojojfkab.Evt
set_option linter.unusedVariables false
set_option linter.unusedSimpArgs false
set_option maxRecDepth 100000
def elA : El := ⟨⟨#[97]⟩, none, 0, 0, false, 1, 1, none, 0, 0⟩
def evA : Ev := ⟨⟨#[]⟩, ⟨#[]⟩, 3, 7, none, 0, 0⟩
theorem sees_evA (w : World) : Sees4 w evA := ⟨by decide, [], rfl, Reads.nil _ _⟩
theorem awake_any (w : World) : Calls Try.prog 48 #[] w fun e w' => e = .returned (.bool true) ∧ Fr [] w w' := by
  obtain ⟨w2, hw2, hb1, hb2, hfa⟩ := two_boxes w elA.cells 83 [.slice (some ⟨w.heap.size, 0, none⟩) 1 1, .int .i64 5, .int .i64 0] 67
  have B1 := Lib.hid hb1
  have B2 := Lib.hid hb2
  have F := Lib.hid hfa
  clear hb1 hb2 hfa
  go_enter Try.func48, Try.ntmps48
  go_upto_region 2 with (fail)
  rw [show (w.alloc (.cells #[.string ⟨#[97]⟩, .slice none 0 0, .bool false, .int .i64 1, .int .i64 1, .slice none 0 0] 83)).alloc (.cells #[.slice (some ⟨w.heap.size, 0, none⟩) 1 1, .int .i64 5, .int .i64 0] 67) = w2 from hw2.symm]
  have q0 := B2.out.cell_at (o := 0) rfl
  have q1 := B2.out.cell_at (o := 1) rfl
  have q2 := B2.out.cell_at (o := 2) rfl
  have HR : Hid (Reads w2 6 (.slice (some ⟨w.heap.size, 0, none⟩) [elA].length 1) [elA].length (qcells [elA])) := Lib.hid (View.of_blk B1.out (Nat.le_refl _) rfl (by decide)).reads
  clear hw2
  go_wp2_with fail
  refine (with_any 0 none none 0 0 0 0 false 0 0 0 (some ⟨w.heap.size, 0, none⟩) 1 [elA] 5 0 1 0 elA evA w2 (.inl ⟨rfl, rfl⟩) (.inl ⟨rfl, rfl⟩) (by omega) (by omega) HR.out (by decide) rfl (sees_evA _)).mono ?_
  rintro _ w3 ⟨m, env, ne, he, hpc, hen, hf⟩
  change _ = Ending.returned (.agg #[.int .i64 1, .pointer m, .pointer env, .int .i64 3, .int .i64 3, .int .i64 7, .int .i64 0, .bool false]) at he
  subst he
  obtain ⟨_, rfl, nb, v, t, k, i, s, a, vn, vc, rfl, hB⟩ : (1 : Int) = 1 ∧ ne = 0 + 1 ∧ ∃ nb v t k i s a vn vc, env = some ⟨nb, 0, none⟩ ∧ Blk w3 nb [.string v, .string t, .string k, .int .i64 i, .int .i64 s, .slice a vn vc, .pointer none, .int .i64 ((0 + 1 : Nat) : Int)] 147 := by
    rcases hen with h | h
    · exact h
    · exact absurd rfl h.1
  go_upto_region 3 with (fail)
  obtain ⟨wr, hwr⟩ : ∃ W, W = w3.alloc (.cells [.int .i64 1, .pointer m, .pointer (some ⟨nb, 0, none⟩), .int .i64 3, .int .i64 3, .int .i64 7, .int .i64 0, .bool false].toArray 73) := ⟨_, rfl⟩
  have BR : Hid (Blk wr w3.heap.size [.int .i64 1, .pointer m, .pointer (some ⟨nb, 0, none⟩), .int .i64 3, .int .i64 3, .int .i64 7, .int .i64 0, .bool false] 73) := Lib.hid (by rw [hwr]; exact Blk.new w3 _ _)
  have FR : Hid (Fr [] w2 wr) := Lib.hid (by rw [hwr]; exact hf.alloc _)
  rw [show w3.alloc (.cells #[.int .i64 1, .pointer m, .pointer (some ⟨nb, 0, none⟩), .int .i64 3, .int .i64 3, .int .i64 7, .int .i64 0, .bool false] 73) = wr from hwr.symm]
  have hfr : Fr [] w3 wr := by rw [hwr]; exact (Fr.refl _ _).alloc _
  have PC3 := Lib.hid (hpc.fr0 hfr)
  have HB3 := Lib.hid (hB.fr hfr (by simp))
  obtain ⟨rb, hrb⟩ : ∃ q, q = w3.heap.size := ⟨_, rfl⟩
  rw [← hrb] at BR ⊢
  clear hwr hfr hf hpc hB hrb q0 q1 q2 hen
  have G0 : Hid (Fr [] wr wr) := Lib.hid (Fr.refl _ _)
  have r0 := (BR.out.fr G0.out (by simp)).cell_at (o := 0) rfl
  have r1 := (BR.out.fr G0.out (by simp)).cell_at (o := 1) rfl
  have r2 := (BR.out.fr G0.out (by simp)).cell_at (o := 2) rfl
  have r3 := (BR.out.fr G0.out (by simp)).cell_at (o := 3) rfl
  have r4 := (BR.out.fr G0.out (by simp)).cell_at (o := 4) rfl
  have r5 := (BR.out.fr G0.out (by simp)).cell_at (o := 5) rfl
  have r6 := (BR.out.fr G0.out (by simp)).cell_at (o := 6) rfl
  have r7 := (BR.out.fr G0.out (by simp)).cell_at (o := 7) rfl
  have q0 := ((B2.out.fr FR.out (by simp)).fr G0.out (by simp)).cell_at (o := 0) rfl
  have q1 := ((B2.out.fr FR.out (by simp)).fr G0.out (by simp)).cell_at (o := 1) rfl
  have q2 := ((B2.out.fr FR.out (by simp)).fr G0.out (by simp)).cell_at (o := 2) rfl
  go_wp2_with fail
  clear r0 r1 r2 r3 r4 r5 r6 r7 q0 q1 q2
  refine (rlen_any 1 m (some ⟨nb, 0, none⟩) 3 3 7 0 false 1 wr (PC3.out.fr0 G0.out).ch).mono ?_
  rintro _ x1 ⟨rfl, hf⟩
  have G1 := Lib.hid (G0.out.trans0 hf)
  clear hf
  have r0 := (BR.out.fr G1.out (by simp)).cell_at (o := 0) rfl
  have r1 := (BR.out.fr G1.out (by simp)).cell_at (o := 1) rfl
  have r2 := (BR.out.fr G1.out (by simp)).cell_at (o := 2) rfl
  have r3 := (BR.out.fr G1.out (by simp)).cell_at (o := 3) rfl
  have r4 := (BR.out.fr G1.out (by simp)).cell_at (o := 4) rfl
  have r5 := (BR.out.fr G1.out (by simp)).cell_at (o := 5) rfl
  have r6 := (BR.out.fr G1.out (by simp)).cell_at (o := 6) rfl
  have r7 := (BR.out.fr G1.out (by simp)).cell_at (o := 7) rfl
  have q0 := ((B2.out.fr FR.out (by simp)).fr G1.out (by simp)).cell_at (o := 0) rfl
  have q1 := ((B2.out.fr FR.out (by simp)).fr G1.out (by simp)).cell_at (o := 1) rfl
  have q2 := ((B2.out.fr FR.out (by simp)).fr G1.out (by simp)).cell_at (o := 2) rfl
  go_wp2_with fail
  clear r0 r1 r2 r3 r4 r5 r6 r7 q0 q1 q2
  refine (elem_some 1 m (some ⟨nb, 0, none⟩) 3 3 7 0 false 1 0 x1 (PC3.out.fr0 G1.out) (by omega)).mono ?_
  rintro _ x2 ⟨rfl, hf⟩
  have G2 := Lib.hid (G1.out.trans0 hf)
  clear hf
  have r0 := (BR.out.fr G2.out (by simp)).cell_at (o := 0) rfl
  have r1 := (BR.out.fr G2.out (by simp)).cell_at (o := 1) rfl
  have r2 := (BR.out.fr G2.out (by simp)).cell_at (o := 2) rfl
  have r3 := (BR.out.fr G2.out (by simp)).cell_at (o := 3) rfl
  have r4 := (BR.out.fr G2.out (by simp)).cell_at (o := 4) rfl
  have r5 := (BR.out.fr G2.out (by simp)).cell_at (o := 5) rfl
  have r6 := (BR.out.fr G2.out (by simp)).cell_at (o := 6) rfl
  have r7 := (BR.out.fr G2.out (by simp)).cell_at (o := 7) rfl
  have q0 := ((B2.out.fr FR.out (by simp)).fr G2.out (by simp)).cell_at (o := 0) rfl
  have q1 := ((B2.out.fr FR.out (by simp)).fr G2.out (by simp)).cell_at (o := 1) rfl
  have q2 := ((B2.out.fr FR.out (by simp)).fr G2.out (by simp)).cell_at (o := 2) rfl
  go_wp2_with fail
  clear r0 r1 r2 r3 r4 r5 r6 r7 q0 q1 q2
  refine (first_any 1 m (some ⟨nb, 0, none⟩) 3 3 7 0 false x2).mono ?_
  rintro _ x3 ⟨rfl, hf⟩
  have G3 := Lib.hid (G2.out.trans0 hf)
  clear hf
  have r0 := (BR.out.fr G3.out (by simp)).cell_at (o := 0) rfl
  have r1 := (BR.out.fr G3.out (by simp)).cell_at (o := 1) rfl
  have r2 := (BR.out.fr G3.out (by simp)).cell_at (o := 2) rfl
  have r3 := (BR.out.fr G3.out (by simp)).cell_at (o := 3) rfl
  have r4 := (BR.out.fr G3.out (by simp)).cell_at (o := 4) rfl
  have r5 := (BR.out.fr G3.out (by simp)).cell_at (o := 5) rfl
  have r6 := (BR.out.fr G3.out (by simp)).cell_at (o := 6) rfl
  have r7 := (BR.out.fr G3.out (by simp)).cell_at (o := 7) rfl
  have q0 := ((B2.out.fr FR.out (by simp)).fr G3.out (by simp)).cell_at (o := 0) rfl
  have q1 := ((B2.out.fr FR.out (by simp)).fr G3.out (by simp)).cell_at (o := 1) rfl
  have q2 := ((B2.out.fr FR.out (by simp)).fr G3.out (by simp)).cell_at (o := 2) rfl
  go_wp2_with fail
  clear r0 r1 r2 r3 r4 r5 r6 r7 q0 q1 q2
  refine (env_any 1 m (some ⟨nb, 0, none⟩) 3 3 7 0 false (nb + 1) [⟨v, t, k, i, s, a, vn, vc⟩] x3 ⟨nb, none, rfl, by omega, HB3.out.fr G3.out (by simp), rfl⟩ (by have := (HB3.out.fr G3.out (by simp)).lt; omega) (by simp)).mono ?_
  rintro _ x4 ⟨⟨g, rfl, _, _⟩, hf⟩
  have G4 := Lib.hid (G3.out.trans0 hf)
  clear hf
  have r0 := (BR.out.fr G4.out (by simp)).cell_at (o := 0) rfl
  have r1 := (BR.out.fr G4.out (by simp)).cell_at (o := 1) rfl
  have r2 := (BR.out.fr G4.out (by simp)).cell_at (o := 2) rfl
  have r3 := (BR.out.fr G4.out (by simp)).cell_at (o := 3) rfl
  have r4 := (BR.out.fr G4.out (by simp)).cell_at (o := 4) rfl
  have r5 := (BR.out.fr G4.out (by simp)).cell_at (o := 5) rfl
  have r6 := (BR.out.fr G4.out (by simp)).cell_at (o := 6) rfl
  have r7 := (BR.out.fr G4.out (by simp)).cell_at (o := 7) rfl
  have q0 := ((B2.out.fr FR.out (by simp)).fr G4.out (by simp)).cell_at (o := 0) rfl
  have q1 := ((B2.out.fr FR.out (by simp)).fr G4.out (by simp)).cell_at (o := 1) rfl
  have q2 := ((B2.out.fr FR.out (by simp)).fr G4.out (by simp)).cell_at (o := 2) rfl
  go_wp2_with fail
  clear r0 r1 r2 r3 r4 r5 r6 r7 q0 q1 q2
  refine (over_any 1 m (some ⟨nb, 0, none⟩) 3 3 7 0 false 1 (some ⟨w.heap.size, 0, none⟩) 1 1 5 0 9 x4 (PC3.out.fr0 G4.out).ch (by omega) (by omega) true rfl).mono ?_
  rintro _ x5 ⟨rfl, hf⟩
  have G5 := Lib.hid (G4.out.trans0 hf)
  clear hf
  have r0 := (BR.out.fr G5.out (by simp)).cell_at (o := 0) rfl
  have r1 := (BR.out.fr G5.out (by simp)).cell_at (o := 1) rfl
  have r2 := (BR.out.fr G5.out (by simp)).cell_at (o := 2) rfl
  have r3 := (BR.out.fr G5.out (by simp)).cell_at (o := 3) rfl
  have r4 := (BR.out.fr G5.out (by simp)).cell_at (o := 4) rfl
  have r5 := (BR.out.fr G5.out (by simp)).cell_at (o := 5) rfl
  have r6 := (BR.out.fr G5.out (by simp)).cell_at (o := 6) rfl
  have r7 := (BR.out.fr G5.out (by simp)).cell_at (o := 7) rfl
  have q0 := ((B2.out.fr FR.out (by simp)).fr G5.out (by simp)).cell_at (o := 0) rfl
  have q1 := ((B2.out.fr FR.out (by simp)).fr G5.out (by simp)).cell_at (o := 1) rfl
  have q2 := ((B2.out.fr FR.out (by simp)).fr G5.out (by simp)).cell_at (o := 2) rfl
  go_wp2_with fail
  clear r0 r1 r2 r3 r4 r5 r6 r7 q0 q1 q2
  refine (over_any 1 m (some ⟨nb, 0, none⟩) 3 3 7 0 false 1 (some ⟨w.heap.size, 0, none⟩) 1 1 5 0 8 x5 (PC3.out.fr0 G5.out).ch (by omega) (by omega) false rfl).mono ?_
  rintro _ x6 ⟨rfl, hf⟩
  have G6 := Lib.hid (G5.out.trans0 hf)
  clear hf
  have r0 := (BR.out.fr G6.out (by simp)).cell_at (o := 0) rfl
  have r1 := (BR.out.fr G6.out (by simp)).cell_at (o := 1) rfl
  have r2 := (BR.out.fr G6.out (by simp)).cell_at (o := 2) rfl
  have r3 := (BR.out.fr G6.out (by simp)).cell_at (o := 3) rfl
  have r4 := (BR.out.fr G6.out (by simp)).cell_at (o := 4) rfl
  have r5 := (BR.out.fr G6.out (by simp)).cell_at (o := 5) rfl
  have r6 := (BR.out.fr G6.out (by simp)).cell_at (o := 6) rfl
  have r7 := (BR.out.fr G6.out (by simp)).cell_at (o := 7) rfl
  have q0 := ((B2.out.fr FR.out (by simp)).fr G6.out (by simp)).cell_at (o := 0) rfl
  have q1 := ((B2.out.fr FR.out (by simp)).fr G6.out (by simp)).cell_at (o := 1) rfl
  have q2 := ((B2.out.fr FR.out (by simp)).fr G6.out (by simp)).cell_at (o := 2) rfl
  go_wp2_with fail
  clear r0 r1 r2 r3 r4 r5 r6 r7 q0 q1 q2
  refine (elem_none 0 none 0 0 0 0 false x6).mono ?_
  rintro _ x7 ⟨rfl, hf⟩
  have G7 := Lib.hid (G6.out.trans0 hf)
  clear hf
  go_wp2_with fail
  go_ret
  exact ⟨rfl, (F.out.trans0 FR.out).trans0 G7.out⟩
end Go.Proofs.Ytcnoaflojojfkab.Rn
