/- Plain words on memory that all walks of this seat use: what a call leaves as it was, and what a block holds. No condition. -/
import Derived.Test.YtkfphlmbdppbfaaProg
import Derived.WalkKit
import Derived.WalkSpells
import Derived.WalkLawsBesides
import Derived.BigQuiet
import Derived.Deep.QuietTactic
import Derived.Deep.RegionWith
import Derived.Deep.LoopGhost
import Derived.Deep.DeepCutAuto
import Derived.Deep.CutBlock
import Derived.Lib.Hide
import Derived.KernelRfl
import Derived.BigRegion
import Derived.StillTailTactics
import Derived.Outline
import Derived.Below
namespace Go.Proofs.Ytkfphlmbdppbfaa
open Go.RowKit

theorem ret_bool {a b : Bool} (h : a = b) : Ending.returned (.bool a) = .returned (.bool b) := by rw [h]
theorem ret_int {k : IntKind} {a b : Int} (h : a = b) : Ending.returned (.int k a) = .returned (.int k b) := by rw [h]

/-- the greater, and the smaller, of two whole numbers, as Go's max and min tell it -/
def imax (a b : Int) : Int := if a < b then b else a
def imin (a b : Int) : Int := if b < a then b else a
theorem imax_eq (a b : Int) : imax a b = max a b := by unfold imax; omega
theorem imin_eq (a b : Int) : imin a b = min a b := by unfold imin; omega
theorem max_int (ats : Array TypeId) (ty : TypeId) (k k' : IntKind) (x y : Int) : Builtin.max_ ats ty #[.int k x, .int k' y] = pure (.int k (imax x y)) := by
  simp only [Builtin.max_, Builtin.max2, List.foldlM_cons, List.foldlM_nil, imax, gt_iff_lt]
  rfl
theorem min_int (ats : Array TypeId) (ty : TypeId) (k k' : IntKind) (x y : Int) : Builtin.min_ ats ty #[.int k x, .int k' y] = pure (.int k (imin x y)) := by
  simp only [Builtin.min_, Builtin.min2, List.foldlM_cons, List.foldlM_nil, imin]
  rfl
theorem max_int3 (ats : Array TypeId) (ty : TypeId) (k k' k'' : IntKind) (x y z : Int) : Builtin.max_ ats ty #[.int k x, .int k' y, .int k'' z] = pure (.int k (imax (imax x y) z)) := by
  simp only [Builtin.max_, Builtin.max2, List.foldlM_cons, List.foldlM_nil, imax, gt_iff_lt]
  rfl
theorem min_int3 (ats : Array TypeId) (ty : TypeId) (k k' k'' : IntKind) (x y z : Int) : Builtin.min_ ats ty #[.int k x, .int k' y, .int k'' z] = pure (.int k (imin (imin x y) z)) := by
  simp only [Builtin.min_, Builtin.min2, List.foldlM_cons, List.foldlM_nil, imin]
  rfl
attribute [go_sem high] max_int min_int max_int3 min_int3

/-- What a call leaves as it was: the streams, and each block that was there and is not among S. -/
structure Fr (S : List Nat) (w w' : World) : Prop where
  os : w'.os = w.os
  tape : w'.tape = w.tape
  output : w'.output = w.output
  size : w.heap.size ≤ w'.heap.size
  block : ∀ k, k < w.heap.size → k ∉ S → w'.heap[k]? = w.heap[k]?

namespace Fr
variable {S S' : List Nat} {w w1 w2 : World}
theorem refl (S : List Nat) (w : World) : Fr S w w := ⟨rfl, rfl, rfl, Nat.le_refl _, fun _ _ _ => rfl⟩
theorem trans (h : Fr S w w1) (k : Fr S' w1 w2) (hs : ∀ b ∈ S', b ∈ S ∨ w.heap.size ≤ b) : Fr S w w2 :=
  ⟨k.os.trans h.os, k.tape.trans h.tape, k.output.trans h.output, Nat.le_trans h.size k.size, fun i hi hn =>
    (k.block i (Nat.lt_of_lt_of_le hi h.size) (fun hm => (hs i hm).elim hn (fun hle => absurd hle (by omega)))).trans (h.block i hi hn)⟩
theorem trans0 (h : Fr S w w1) (k : Fr [] w1 w2) : Fr S w w2 := h.trans k (fun _ hb => by cases hb)
theorem same (h : Fr S w w1) (k : Fr S w1 w2) : Fr S w w2 := h.trans k (fun _ hb => .inl hb)
theorem wide (h : Fr S w w1) (hs : ∀ b ∈ S, b ∈ S') : Fr S' w w1 := ⟨h.os, h.tape, h.output, h.size, fun k hk hn => h.block k hk (fun hm => hn (hs k hm))⟩
theorem of_nil (h : Fr [] w w1) : Fr S w w1 := h.wide (fun _ hb => by cases hb)
theorem drew (h : Fr S w w1) : Fr S w w1.drew := ⟨h.os, h.tape, h.output, h.size, h.block⟩
theorem drewN (h : Fr S w w1) (n : Nat) : Fr S w (w1.drewN n) := ⟨h.os, h.tape, h.output, h.size, h.block⟩
theorem alloc (h : Fr S w w1) (o : Obj) : Fr S w (w1.alloc o) :=
  ⟨h.os, h.tape, h.output, by have := h.size; simp; omega, fun k hk hn => (Below.heap_alloc _ _ _ (by have := h.size; omega)).trans (h.block k hk hn)⟩
theorem set (h : Fr S w w1) {a : Addr} (ha : a.block ∈ S ∨ w.heap.size ≤ a.block) (v : Value) : Fr S w (w1.setCell a v) :=
  ⟨h.os, h.tape, h.output, by have := h.size; simp [World.setCell]; omega, fun k hk hn =>
    (Below.heap_setCell _ _ _ _ (fun e => by subst e; exact ha.elim hn (fun hle => by omega))).trans (h.block k hk hn)⟩
theorem grown (h : Fr S w w1) {row : Option Nat} (hg : w1.grownBy w2 row) (hr : ∀ k, row = some k → k ∈ S ∨ w.heap.size ≤ k) : Fr S w w2 :=
  ⟨hg.os.trans h.os, hg.tape.trans h.tape, hg.output.trans h.output, Nat.le_trans h.size hg.size, fun k hk hn =>
    (hg.block k (by have := h.size; omega) (fun e => (hr k e.symm).elim hn (fun hle => by omega))).trans (h.block k hk hn)⟩
theorem cell (h : Fr S w w1) {b o : Nat} {v : Value} (hc : w.cell? ⟨b, o, none⟩ = some v) (hb : b ∉ S) : w1.cell? ⟨b, o, none⟩ = some v :=
  (World.cell?_of_block (w := w) (h.block b (World.block_lt_of_cell? w _ hc) hb)).trans hc
theorem of_grown {row : Option Nat} (hg : w.grownBy w1 row) : Fr row.toList w w1 := ⟨hg.os, hg.tape, hg.output, hg.size, fun k hk hn => hg.block k hk (fun e => hn (by rw [← e]; simp))⟩
theorem below (h : Fr S w w1) {B : Nat} (hB : B ≤ w.heap.size) (hs : ∀ b ∈ S, B ≤ b) : Below B w w1 :=
  ⟨h.os, h.tape, h.output, h.size, fun k hk => h.block k (by omega) (fun hm => by have := hs k hm; omega)⟩
theorem below0 (h : Fr [] w w1) : Below w.heap.size w w1 := h.below (Nat.le_refl _) (fun _ hb => by cases hb)
theorem of_drewN {n : Nat} (h : w1 = w.drewN n) : Fr S w w1 := by rw [h]; exact (Fr.refl _ _).drewN n
theorem of_below (h : Below w.heap.size w w1) : Fr S w w1 := ⟨h.os, h.tape, h.output, h.size, fun k hk _ => h.block k hk⟩
end Fr

/-- A block that holds just these cells, none of them frozen. -/
def Blk (w : World) (b : Nat) (cs : List Value) (t : TypeId) : Prop := w.heap[b]? = some (.cells cs.toArray t (0, 0))
namespace Blk
variable {S : List Nat} {w w1 : World} {b : Nat} {cs : List Value} {t : TypeId}
theorem lt (h : Blk w b cs t) : b < w.heap.size := by
  unfold Blk at h
  exact (Array.getElem?_eq_some_iff.1 h).1
theorem cell (h : Blk w b cs t) (o : Nat) : w.cell? ⟨b, o, none⟩ = cs[o]? := by
  unfold Blk at h
  simp [World.cell?, h]
theorem cell_at (h : Blk w b cs t) {o : Nat} {v : Value} (hv : cs[o]? = some v) : w.cell? ⟨b, o, none⟩ = some v := (h.cell o).trans hv
theorem thawed (h : Blk w b cs t) (o : Nat) : w.frozen? ⟨b, o, none⟩ = false := by
  unfold Blk at h
  simp [World.frozen?, h]
theorem fr (h : Blk w b cs t) (hf : Fr S w w1) (hb : b ∉ S) : Blk w1 b cs t := (hf.block b h.lt hb).trans h
theorem of_eq (h : Blk w b cs t) (e : w1.heap[b]? = w.heap[b]?) : Blk w1 b cs t := e.trans h
theorem drew (h : Blk w b cs t) : Blk w.drew b cs t := h
theorem drewN (h : Blk w b cs t) (n : Nat) : Blk (w.drewN n) b cs t := h
theorem of_drewN {n : Nat} (h : Blk w b cs t) (e : w1 = w.drewN n) : Blk w1 b cs t := by rw [e]; exact h
theorem alloc (h : Blk w b cs t) (o : Obj) : Blk (w.alloc o) b cs t := (Below.heap_alloc w o b h.lt).trans h
theorem new (w : World) (cs : List Value) (t : TypeId) : Blk (w.alloc (.cells cs.toArray t)) w.heap.size cs t := by
  unfold Blk World.alloc; simp
theorem set_ne (h : Blk w b cs t) {a : Addr} (ha : b ≠ a.block) (v : Value) : Blk (w.setCell a v) b cs t := (Below.heap_setCell w a v b ha).trans h
theorem set (h : Blk w b cs t) (o : Nat) (v : Value) : Blk (w.setCell ⟨b, o, none⟩ v) b (cs.set o v) t := by
  unfold Blk at *
  simp only [World.setCell, Array.getElem?_modify, if_true, h]
  simp
theorem inj (h : Blk w b cs t) {cs' : List Value} {t' : TypeId} (h' : Blk w b cs' t') : cs = cs' := by
  unfold Blk at *
  rw [h] at h'; simp at h'; exact h'.1
end Blk

/-- new blocks, one behind the other -/
theorem new1 (w : World) (c : List Value) (t : TypeId) : Blk (w.alloc (.cells c.toArray t)) w.heap.size c t ∧ Fr [] w (w.alloc (.cells c.toArray t)) :=
  ⟨Blk.new w c t, (Fr.refl _ _).alloc _⟩
theorem new2 (w : World) (c1 : List Value) (t1 : TypeId) (c2 : List Value) (t2 : TypeId) :
    Blk ((w.alloc (.cells c1.toArray t1)).alloc (.cells c2.toArray t2)) w.heap.size c1 t1 ∧ Blk ((w.alloc (.cells c1.toArray t1)).alloc (.cells c2.toArray t2)) (w.heap.size + 1) c2 t2 ∧ Fr [] w ((w.alloc (.cells c1.toArray t1)).alloc (.cells c2.toArray t2)) := by
  refine ⟨(Blk.new w c1 t1).alloc _, ?_, ((Fr.refl _ _).alloc _).alloc _⟩
  have := Blk.new (w.alloc (.cells c1.toArray t1)) c2 t2
  rw [World.size_alloc] at this; exact this
theorem new3 (w : World) (c1 : List Value) (t1 : TypeId) (c2 : List Value) (t2 : TypeId) (c3 : List Value) (t3 : TypeId) :
    Blk (((w.alloc (.cells c1.toArray t1)).alloc (.cells c2.toArray t2)).alloc (.cells c3.toArray t3)) w.heap.size c1 t1 ∧ Blk (((w.alloc (.cells c1.toArray t1)).alloc (.cells c2.toArray t2)).alloc (.cells c3.toArray t3)) (w.heap.size + 1) c2 t2 ∧
    Blk (((w.alloc (.cells c1.toArray t1)).alloc (.cells c2.toArray t2)).alloc (.cells c3.toArray t3)) (w.heap.size + 2) c3 t3 ∧ Fr [] w (((w.alloc (.cells c1.toArray t1)).alloc (.cells c2.toArray t2)).alloc (.cells c3.toArray t3)) := by
  obtain ⟨h1, h2, h3⟩ := new2 w c1 t1 c2 t2
  refine ⟨h1.alloc _, h2.alloc _, ?_, h3.alloc _⟩
  have := Blk.new ((w.alloc (.cells c1.toArray t1)).alloc (.cells c2.toArray t2)) c3 t3
  simp only [World.size_alloc] at this; exact this

theorem set_self {α : Type} {l : List α} {k : Nat} {a : α} (h : l[k]? = some a) : l.set k a = l := by
  obtain ⟨hk, rfl⟩ := List.getElem?_eq_some_iff.1 h
  exact List.set_getElem_self hk

theorem wrap64_small {x : Int} (h0 : -9223372036854775808 ≤ x) (h1 : x ≤ 9223372036854775807) : wrap64 x = x := by
  unfold wrap64
  omega
end Go.Proofs.Ytkfphlmbdppbfaa
