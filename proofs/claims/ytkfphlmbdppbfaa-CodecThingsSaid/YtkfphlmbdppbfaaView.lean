/- Slices that a call reads, and slices that it owns (which may begin inside their block): what append, make and a cut make of them. No condition. -/
import Derived.Test.YtkfphlmbdppbfaaBase
import Derived.Laws.CopyRow
import Derived.Laws.OwnMore
import Derived.OwnWalk
namespace Go.Proofs.Ytkfphlmbdppbfaa
open Go.RowKit
set_option linter.unusedVariables false
set_option linter.unusedSimpArgs false

theorem addr_add (b o j : Nat) : (⟨b, o, none⟩ : Addr).add j = ⟨b, o + j, none⟩ := by unfold Addr.add; split <;> simp_all

/-- A slice that can be read: n elements of so many cells each, these cells. -/
def Reads (w : World) (size : Nat) (v : Value) (n : Nat) (xs : List Value) : Prop :=
  xs.length = n * size ∧ ∃ a c, v = .slice a n c ∧ n ≤ c ∧ (xs = [] ∨ ∃ b o, a = some ⟨b, o, none⟩ ∧ ∀ j u, xs[j]? = some u → w.cell? ⟨b, o + j, none⟩ = some u)

/-- A slice of which the block is one's own: nil, or a part of a block from B on. -/
def View (w : World) (B : Nat) (e : TypeId) (size : Nat) (v : Value) (n : Nat) (xs : List Value) : Prop :=
  xs.length = n * size ∧ ((v = .slice none 0 0 ∧ n = 0) ∨
    ∃ g off cap cs, v = .slice (some ⟨g, off, none⟩) n cap ∧ B ≤ g ∧ Blk w g cs e ∧ n ≤ cap ∧ cap ≤ maxLen ∧ off + cap * size ≤ cs.length ∧ (cs.drop off).take (n * size) = xs)

namespace Reads
variable {w w1 : World} {size n : Nat} {v : Value} {xs : List Value}
theorem nil (w : World) (size : Nat) : Reads w size (.slice none 0 0) 0 [] := ⟨by simp, none, 0, rfl, Nat.le_refl _, .inl rfl⟩
theorem of_cells (h : Reads w size v n xs) (hc : ∀ b o, v = .slice (some ⟨b, o, none⟩) n (match v with | .slice _ _ c => c | _ => 0) → ∀ j, j < xs.length → w1.cell? ⟨b, o + j, none⟩ = w.cell? ⟨b, o + j, none⟩) : Reads w1 size v n xs := by
  obtain ⟨hl, a, c, rfl, hnc, h | ⟨b, o, rfl, h⟩⟩ := h
  · exact ⟨hl, a, c, rfl, hnc, .inl h⟩
  · exact ⟨hl, _, c, rfl, hnc, .inr ⟨b, o, rfl, fun j u hu => (hc b o rfl j (List.getElem?_eq_some_iff.1 hu).1).trans (h j u hu)⟩⟩
theorem alloc (h : Reads w size v n xs) (o : Obj) : Reads (w.alloc o) size v n xs := by
  obtain ⟨hl, a, c, rfl, hnc, h | ⟨b, o', rfl, h⟩⟩ := h
  · exact ⟨hl, a, c, rfl, hnc, .inl h⟩
  · exact ⟨hl, _, c, rfl, hnc, .inr ⟨b, o', rfl, fun j u hu => (World.cell?_alloc_lt _ _ _ (World.block_lt_of_cell? w _ (h j u hu))).trans (h j u hu)⟩⟩
theorem drew (h : Reads w size v n xs) : Reads w.drew size v n xs := h
theorem drewN (h : Reads w size v n xs) (k : Nat) : Reads (w.drewN k) size v n xs := h
/-- what lies below B stays readable -/
theorem keep (h : Reads w size v n xs) {B : Nat} (hB : ∀ b o c, v = .slice (some ⟨b, o, none⟩) n c → xs ≠ [] → b < B) (hb : ∀ k, k < B → w1.heap[k]? = w.heap[k]?) : Reads w1 size v n xs := by
  obtain ⟨hl, a, c, rfl, hnc, h | ⟨b, o, rfl, h⟩⟩ := h
  · exact ⟨hl, a, c, rfl, hnc, .inl h⟩
  · refine ⟨hl, _, c, rfl, hnc, .inr ⟨b, o, rfl, fun j u hu => ?_⟩⟩
    have hlt := hB b o c rfl (by intro h0; rw [h0] at hu; cases hu)
    exact (World.cell?_of_block (w := w) (hb b hlt)).trans (h j u hu)
theorem fr {S : List Nat} (h : Reads w size v n xs) (hf : Fr S w w1) (hS : ∀ b o c, v = .slice (some ⟨b, o, none⟩) n c → b ∉ S) : Reads w1 size v n xs := by
  obtain ⟨hl, a, c, rfl, hnc, h | ⟨b, o, rfl, h⟩⟩ := h
  · exact ⟨hl, a, c, rfl, hnc, .inl h⟩
  · refine ⟨hl, _, c, rfl, hnc, .inr ⟨b, o, rfl, fun j u hu => ?_⟩⟩
    have hlt := World.block_lt_of_cell? w _ (h j u hu)
    exact (World.cell?_of_block (w := w) (hf.block b hlt (hS b o c rfl))).trans (h j u hu)
theorem fr0 (h : Reads w size v n xs) (hf : Fr [] w w1) : Reads w1 size v n xs := h.fr hf (fun _ _ _ _ hm => by cases hm)
end Reads

namespace View
variable {w w1 : World} {B e size n : Nat} {v : Value} {xs : List Value}
theorem nil (w : World) (B e size : Nat) : View w B e size (.slice none 0 0) 0 [] := ⟨by simp, .inl ⟨rfl, rfl⟩⟩
theorem reads (h : View w B e size v n xs) : Reads w size v n xs := by
  obtain ⟨hl, ⟨rfl, rfl⟩ | ⟨g, off, cap, cs, rfl, hB, hb, hn, hm, hf, rfl⟩⟩ := h
  · exact ⟨hl, none, 0, rfl, Nat.le_refl _, .inl (List.eq_nil_of_length_eq_zero (by simpa using hl))⟩
  · refine ⟨hl, _, cap, rfl, hn, .inr ⟨g, off, rfl, fun j u hu => ?_⟩⟩
    rw [hb.cell]
    rw [List.getElem?_take] at hu
    split at hu
    · rw [List.getElem?_drop] at hu; exact hu
    · cases hu
theorem fr {S : List Nat} (h : View w B e size v n xs) (hf : Fr S w w1) (hS : ∀ g, v.ownBlock = some g → g ∉ S) : View w1 B e size v n xs := by
  obtain ⟨hl, h | ⟨g, off, cap, cs, rfl, hB, hb, r⟩⟩ := h
  · exact ⟨hl, .inl h⟩
  · exact ⟨hl, .inr ⟨g, off, cap, cs, rfl, hB, hb.fr hf (hS g rfl), r⟩⟩
theorem alloc (h : View w B e size v n xs) (o : Obj) : View (w.alloc o) B e size v n xs := h.fr ((Fr.refl [] w).alloc o) (fun _ _ hm => by cases hm)
theorem drew (h : View w B e size v n xs) : View w.drew B e size v n xs := h
theorem drewN (h : View w B e size v n xs) (k : Nat) : View (w.drewN k) B e size v n xs := h
theorem form (h : View w B e size v n xs) : ∃ a c, v = .slice a n c := by
  obtain ⟨_, ⟨rfl, rfl⟩ | ⟨g, off, cap, cs, rfl, _⟩⟩ := h
  · exact ⟨_, _, rfl⟩
  · exact ⟨_, _, rfl⟩
theorem fr0 (h : View w B e size v n xs) (hf : Fr [] w w1) : View w1 B e size v n xs := h.fr hf (fun _ _ hm => by cases hm)
theorem lt (h : View w B e size v n xs) {g : Nat} (hg : v.ownBlock = some g) : B ≤ g ∧ g < w.heap.size := by
  obtain ⟨hl, ⟨rfl, rfl⟩ | ⟨g', off, cap, cs, rfl, hB, hb, r⟩⟩ := h
  · cases hg
  · simp only [Value.ownBlock, Option.some.injEq] at hg; subst hg; exact ⟨hB, hb.lt⟩
/-- a block that was made with n elements -/
theorem of_blk {g : Nat} {cs : List Value} (hb : Blk w g cs e) (hB : B ≤ g) (hl : cs.length = n * size) (hm : n ≤ maxLen) : View w B e size (.slice (some ⟨g, 0, none⟩) n n) n cs :=
  ⟨hl, .inr ⟨g, 0, n, cs, rfl, hB, hb, Nat.le_refl _, hm, by omega, by rw [List.drop_zero, List.take_of_length_le (by omega)]⟩⟩
/-- a cut s[k:] of one's own slice -/
theorem cut {g off cap k : Nat} (h : View w B e size (.slice (some ⟨g, off, none⟩) n cap) n xs) (hk : k ≤ n) :
    View w B e size (.slice (some ⟨g, off + k * size, none⟩) (n - k) (cap - k)) (n - k) (xs.drop (k * size)) := by
  obtain ⟨hl, ⟨h0, _⟩ | ⟨g', off', cap', cs, hv, hB, hb, hn, hm, hf, ht⟩⟩ := h
  · cases h0
  · simp only [Value.slice.injEq, Option.some.injEq, Addr.mk.injEq, and_true, true_and] at hv
    obtain ⟨⟨rfl, rfl⟩, rfl⟩ := hv
    have e1 : (n - k) * size = n * size - k * size := Nat.sub_mul _ _ _
    have e2 : (cap - k) * size = cap * size - k * size := Nat.sub_mul _ _ _
    have e3 : k * size ≤ n * size := Nat.mul_le_mul_right _ hk
    have e4 : n * size ≤ cap * size := Nat.mul_le_mul_right _ hn
    refine ⟨by rw [List.length_drop, hl, e1], .inr ⟨g, off + k * size, cap - k, cs, rfl, hB, hb, by omega, by omega, by omega, ?_⟩⟩
    rw [← ht, e1, List.drop_take, List.drop_drop]
end View

section
variable {P : Program}
theorem firstCells_reads {w : World} {size n : Nat} {v : Value} {xs : List Value} (h : Reads w size v n xs) : (Builtin.firstCells size n v).run P w = .ok xs.toArray w := by
  obtain ⟨hl, a, c, rfl, hnc, rfl | ⟨b, o, rfl, h⟩⟩ := h
  · have h0 : n * size = 0 := by simpa using hl.symm
    cases a with
    | none => simp [Builtin.firstCells]
    | some a => simp [Builtin.firstCells, h0, loadCells, loadCellsFrom]
  · exact run_firstCells_some w size n ⟨b, o, none⟩ n c xs hl (fun j u hu => by rw [addr_add]; exact h j u hu)

theorem append_view (w : World) (B : Nat) (t ty e : TypeId) (i : TypeInfo) (z : Value) (size bytes : Nat) (ht : P.underlying t = some (.slice e)) (hi : P.info? e = some i) (hz : i.zero = some z)
    (hsize : i.size = size) (hby : i.bytes = bytes) (hzs : z.cells.size = size)
    {v : Value} {n : Nat} {xs : List Value} (hv : View w B e size v n xs) {x : Value} {m : Nat} {ys : List Value} (hx : Reads w size x m ys) (h1 : ∀ u ∈ ys, u.oneCell' = true)
    (h63 : n + m ≤ maxLen) (hbytes : (n + m) * bytes ≤ 140737488355328) (hB : B ≤ w.heap.size) :
    ∃ v' w', (Builtin.append_ #[t, t] ty #[v, x]).run P w = .ok v' w' ∧ View w' B e size v' (n + m) (xs ++ ys) ∧ w.grownBy w' v.ownBlock ∧ (v'.ownBlock = v.ownBlock ∨ v'.ownBlock = some w.heap.size) := by
  subst hsize hby
  have hsmall : n + m ≤ 9223372036854775807 := by simp only [maxLen] at h63; omega
  have hlen : (xs ++ ys).length = (n + m) * i.size := by rw [List.length_append, hv.1, hx.1, Nat.add_mul]
  have hfx := firstCells_reads (P := P) hx
  have hfx' := firstCells_reads (P := P) (w := w.drew) hx
  have hfv' := firstCells_reads (P := P) (w := w.drew) hv.reads
  obtain ⟨xa, xc, rfl⟩ : ∃ xa xc, x = .slice xa m xc := by obtain ⟨_, a, c, rfl, _⟩ := hx; exact ⟨a, c, rfl⟩
  have grown : ∀ (old : Nat) (sa : Option Addr), v = .slice sa n old → n ≤ old → old < n + m →
      ∃ v' w', (Builtin.append_ #[t, t] ty #[v, .slice xa m xc]).run P w = .ok v' w' ∧ View w' B e i.size v' (n + m) (xs ++ ys) ∧ w.grownBy w' v.ownBlock ∧ (v'.ownBlock = v.ownBlock ∨ v'.ownBlock = some w.heap.size) := by
    intro old sa hva _ ho
    have hge := grownCap_ge w (n + m) old e
    have hcm : grownCap w (n + m) old e ≤ maxLen := grownCap_le_maxLen w (n + m) old e h63
    subst hva
    have hn : ¬ (n + m ≤ old) := by omega
    have h63' : ¬ (9223372036854775807 < ((n : Int) + (m : Int))) := by omega
    have h48' : ¬ (281474976710656 < Builtin.nextslicecap (n + m) old * i.bytes) := by have := growslice_fits (bytes := i.bytes) ho hbytes; omega
    refine ⟨.slice (some ⟨w.heap.size, 0, none⟩) (n + m) (grownCap w (n + m) old e),
      w.drew.alloc (.cells (xs ++ ys ++ (Builtin.zeroCells z.cells (grownCap w (n + m) old e - (n + m))).toList).toArray e), ?_, ⟨hlen, .inr ⟨w.heap.size, 0, _, _, rfl, hB, Blk.new w.drew _ e, hge, hcm, ?_, ?_⟩⟩, ⟨rfl, rfl, rfl, by simp, fun k hk _ => Below.heap_alloc w.drew _ k hk⟩, .inr rfl⟩
    · simp [Builtin.append_, run_underlying ht, sizeOf, typeInfo, zeroValue, hi, hz, Builtin.lenOf, hn, h63', h48', Question.forced, hfx', hfv', newRow, grownCap]
      congr 2
      apply Array.ext'
      simp
    · simp only [List.length_append, hv.1, hx.1, Array.length_toList, size_zeroCells, hzs, Nat.zero_add, ← Nat.add_mul]
      exact Nat.le_of_eq (by congr 1; omega)
    · rw [List.drop_zero, ← hlen]; exact List.take_left
  obtain ⟨_, ⟨rfl, rfl⟩ | ⟨g, off, cap, cs, rfl, hBg, hb, hnc, hcm, hfit, htk⟩⟩ := id hv
  · by_cases hm : m = 0
    · subst hm
      have hys : ys = [] := List.eq_nil_of_length_eq_zero (by simpa using hx.1)
      have hxs : xs = [] := List.eq_nil_of_length_eq_zero (by simpa using hv.1)
      subst hys hxs
      refine ⟨.slice none 0 0, w, ?_, View.nil _ _ _ _, ⟨rfl, rfl, rfl, Nat.le_refl _, fun _ _ _ => rfl⟩, .inl rfl⟩
      simp [Builtin.append_, run_underlying ht, sizeOf, typeInfo, hi, Builtin.lenOf, hfx]
    · exact grown 0 none rfl (Nat.le_refl _) (by omega)
  · by_cases hroom : n + m ≤ cap
    · have e1 : (n + m) * i.size = n * i.size + m * i.size := Nat.add_mul _ _ _
      have e2 : (n + m) * i.size ≤ cap * i.size := Nat.mul_le_mul_right _ hroom
      have hx1 := hx.1
      have hrow : w.heap[g]? = some (.cells cs.toArray e (0, 0)) := hb
      have hst := run_storeCells_at P g (off + n * i.size) e ys 0 cs.toArray w hrow (by simp; omega) h1
      simp only [Nat.add_zero] at hst
      have hrun : (Builtin.append_ #[t, t] ty #[.slice (some ⟨g, off, none⟩) n cap, .slice xa m xc]).run P w = .ok (.slice (some ⟨g, off, none⟩) (n + m) cap) (w.setRow g (cs.take (off + n * i.size) ++ ys ++ cs.drop (off + n * i.size + ys.length)).toArray) := by
        simp [Builtin.append_, run_underlying ht, sizeOf, typeInfo, hi, Builtin.lenOf, hroom, hfx, addr_add, hst]
      refine ⟨_, _, hrun, ⟨hlen, .inr ⟨g, off, cap, _, rfl, hBg, setRow_heap w g _ _ e _ hrow, hroom, hcm, ?_, ?_⟩⟩, ⟨rfl, rfl, rfl, by simp, fun k hk hne => setRow_other w g k _ (fun e => hne (by simp [Value.ownBlock, e]))⟩, .inl rfl⟩
      · simp only [List.length_append, List.length_take, List.length_drop]; omega
      · have e4 : (cs.take (off + n * i.size)).length = off + n * i.size := by rw [List.length_take]; omega
        rw [List.append_assoc, List.drop_append_of_le_length (by omega), List.drop_take, show off + n * i.size - off = n * i.size by omega, htk, ← List.append_assoc, ← hlen]
        exact List.take_left
    · exact grown cap _ rfl hnc (by omega)

/-- append at a plain region's list -/
theorem wpList_append_view (w : World) {ops : Array Oper} {rest : List Oper} {o : Oper} {a : Act} {Q : Exit → Act → World → Prop} (hgd : o.guard = none) (s x : Operand) (t : TypeId)
    (ho : o.op = .call { callee := .builtin .append, args := #[s, x], argTypes := #[t, t] })
    (B : Nat) (e : TypeId) (i : TypeInfo) (z : Value) (size bytes : Nat) (ht : P.underlying t = some (.slice e)) (hi : P.info? e = some i) (hz : i.zero = some z)
    (hsize : i.size = size) (hby : i.bytes = bytes) (hzs : z.cells.size = size)
    (sa : Option Addr) (sc n : Nat) (xs : List Value) (hs : a.eval s = .slice sa n sc) (hv : View w B e size (.slice sa n sc) n xs) (xv : Value) (m : Nat) (ys : List Value) (hxv : a.eval x = xv) (hx : Reads w size xv m ys) (h1 : ∀ u ∈ ys, u.oneCell' = true)
    (h63 : n + m ≤ maxLen) (hbytes : (n + m) * bytes ≤ 140737488355328) (hB : B ≤ w.heap.size)
    (h : ∀ a' c' w', View w' B e size (.slice a' (n + m) c') (n + m) (xs ++ ys) → w.grownBy w' (Value.slice sa n sc).ownBlock → ((Value.slice a' (n + m) c').ownBlock = (Value.slice sa n sc).ownBlock ∨ (Value.slice a' (n + m) c').ownBlock = some w.heap.size) → wpList P ops Q rest (a.put o.dst (.slice a' (n + m) c')) w') : wpList P ops Q (o :: rest) a w := by
  refine wpList_plain hgd fun K hK => ?_
  obtain ⟨v', w', hr, h2, h3, h4⟩ := append_view (P := P) w B t o.type e i z size bytes ht hi hz hsize hby hzs hv hx h1 h63 hbytes hB
  obtain ⟨a', c', rfl⟩ := h2.form
  unfold Oper.wp execOp
  simp only [ho, resolve, invoke, builtin, Sem.run_bind, Sem.run_pure, Result.andThen_ok, List.map_toArray, List.map_cons, List.map_nil, hs, hxv, hr]
  exact hK _ _ (h a' c' w' h2 h3 h4)

theorem reads_one (w : World) (x : Value) (t : TypeId) : Reads (w.alloc (.cells #[x] t)) 1 (.slice (some ⟨w.heap.size, 0, none⟩) 1 1) 1 [x] :=
  ⟨rfl, _, 1, rfl, Nat.le_refl _, .inr ⟨_, _, rfl, fun j u hu => by
    have := (Blk.new w [x] t).cell (0 + j)
    rw [this, Nat.zero_add]; exact hu⟩⟩

/-- a look ahead: a cut -/
theorem gate_slice {ops : Array Oper} {rest : List Oper} {o : Oper} {a : Act} {Q : Exit → Act → World → Prop} {W : World} {t : TypeId} {x : Operand} {lo hi mx : Option Operand} (_ho : o.op = .slice t x lo hi mx) (h : wpList P ops Q (o :: rest) a W) : wpList P ops Q (o :: rest) a W := h

/-- s[k:] of one's own slice -/
theorem wpList_cut_view (w : World) {ops : Array Oper} {rest : List Oper} {o : Oper} {a : Act} {Q : Exit → Act → World → Prop} (hgd : o.guard = none) (x lo : Operand) (t : TypeId)
    (ho : o.op = .slice t x (some lo) none none) (B : Nat) (e : TypeId) (i : TypeInfo) (size : Nat) (ht : P.underlying t = some (.slice e)) (hi : P.info? e = some i) (hsize : i.size = size)
    (sa : Option Addr) (sc n : Nat) (xs : List Value) (hs : a.eval x = .slice sa n sc) (hv : View w B e size (.slice sa n sc) n xs) (kl : IntKind) (k : Nat) (hlo : a.eval lo = .int kl (k : Int)) (hk : k ≤ n)
    (h : ∀ a' c', View w B e size (.slice a' (n - k) c') (n - k) (xs.drop (k * size)) → (Value.slice a' (n - k) c').ownBlock = (Value.slice sa n sc).ownBlock → wpList P ops Q rest (a.put o.dst (.slice a' (n - k) c')) w) : wpList P ops Q (o :: rest) a w := by
  refine wpList_plain hgd fun K hK => ?_
  subst hsize
  have hn : n ≤ sc := by obtain ⟨_, ⟨h0, rfl⟩ | ⟨_, _, _, _, h0, _, _, hn, _⟩⟩ := hv <;> simp at h0 <;> omega
  have hb1 : (Instr.sliceBound (.int kl (k : Int)) n .sliceB).run P w = .ok k w := by
    have := run_sliceBound (P := P) (w := w) kl (k : Int) n .sliceB (by omega) (by omega)
    simpa using this
  have hrun : (Instr.sliceAt t (.slice sa n sc) (some (.int kl (k : Int))) none none).run P w = .ok (.slice (if sc = k then sa else sa.map (·.add (k * i.size))) (n - k) (sc - k)) w := by
    simp [Instr.sliceAt, Instr.slice, run_underlying ht, Instr.sliceBounds, hb1, sizeOf, typeInfo, hi]
  have hview : View w B e i.size (.slice (if sc = k then sa else sa.map (·.add (k * i.size))) (n - k) (sc - k)) (n - k) (xs.drop (k * i.size)) := by
    by_cases hc : sc = k
    · rw [if_pos hc]
      have hnk : n = k := by omega
      subst hnk hc
      obtain ⟨hl, ⟨h0, rfl⟩ | ⟨g, off, cap, cs, h0, hB, hb, hn', hm, hf, htk⟩⟩ := hv
      · simp at h0
        refine ⟨by simp [hl], .inl ⟨by simp [h0], by simp⟩⟩
      · simp at h0
        obtain ⟨rfl, rfl⟩ := h0
        refine ⟨by simp [hl], .inr ⟨g, off, 0, cs, by simp, hB, hb, by omega, by omega, by omega, ?_⟩⟩
        rw [List.drop_of_length_le (l := xs) (by omega)]; simp
    · rw [if_neg hc]
      cases sa with
      | none =>
        obtain ⟨hl, ⟨h0, rfl⟩ | ⟨g, off, cap, cs, h0, r⟩⟩ := hv
        · simp at h0; omega
        · simp at h0
      | some ad =>
        obtain ⟨g, off, rfl⟩ : ∃ g off, ad = ⟨g, off, none⟩ := by
          obtain ⟨hl, ⟨h0, rfl⟩ | ⟨g, off, cap, cs, h0, r⟩⟩ := hv
          · simp at h0
          · simp at h0; exact ⟨g, off, h0.1⟩
        have := hv.cut hk
        simpa [addr_add] using this
  have hown : (Value.slice (if sc = k then sa else sa.map (·.add (k * i.size))) (n - k) (sc - k)).ownBlock = (Value.slice sa n sc).ownBlock := by
    split
    · cases sa <;> rfl
    · cases sa with
      | none => rfl
      | some ad => simp only [Value.ownBlock, Option.map_some, Option.some.injEq]; unfold Addr.add; split <;> rfl
  unfold Oper.wp
  simp only [execOp, ho, hs, hlo, Sem.run_bind, Option.map_some, Option.map_none, hrun, Result.andThen_ok, Sem.run_pure, Oper.upon_value]
  exact hK _ _ (h _ _ hview hown)

/-- make([]T, n): the very world behind it -/
theorem wpList_make_blk (w : World) {ops : Array Oper} {rest : List Oper} {o : Oper} {a : Act} {Q : Exit → Act → World → Prop}
    (hg : o.guard = none) (l c : Operand) (t : TypeId) (hop : o.op = Op.makeSlice t l c)
    (e : TypeId) (i : TypeInfo) (z : Value) (size bytes : Nat) (h1 : P.underlying t = some (.slice e)) (h2 : P.info? e = some i) (h3 : i.zero = some z) (h4 : i.size = size) (hby : i.bytes = bytes)
    (kl kc : IntKind) (L C : Int) (n : Nat) (hl : a.eval l = .int kl L) (hc : a.eval c = .int kc C) (hL : L = (n : Int)) (hC : C = (n : Int)) (b2 : bytes * n ≤ 281474976710656) (b3 : n ≤ maxLen)
    (hK : wpList P ops Q rest (a.put o.dst (.slice (some ⟨w.heap.size, 0, none⟩) n n)) (w.alloc (.cells (madeCells z.cells (n * size)).toList.toArray e))) :
    wpList P ops Q (o :: rest) a w := by
  refine wpList_plain hg fun K hK' => ?_
  subst hL hC h4 hby
  have hm : (n : Int) ≤ 9223372036854775807 := by simp only [maxLen] at b3; omega
  have hb' : (i.bytes : Int) * (n : Int) ≤ 281474976710656 := by
    have h : ((i.bytes * n : Nat) : Int) ≤ 281474976710656 := by omega
    rwa [Int.natCast_mul] at h
  have hrun := run_make (P := P) w t e i z h1 h2 h3 kl kc n n (by omega) (Int.le_refl _) hb' hm
  simp only [Int.toNat_natCast] at hrun
  unfold Oper.wp
  simp only [execOp, hop, hl, hc, Sem.run_bind, hrun, Result.andThen_ok, Sem.run_pure, Oper.upon_value]
  rw [Array.toArray_toList] at hK
  exact hK' _ _ hK
end
end Go.Proofs.Ytkfphlmbdppbfaa
