/- What a loop over an iterator has collected in a cell, among other cells of its function. No condition. -/
import Derived.Test.YtcnoaflojojfkabSeqsParts
import Derived.Test.YtcnoaflojojfkabSeqsNumMake
namespace Go.Proofs.Ytcnoaflojojfkab.Seqs
open Go.RowKit Go.Shelf
set_option linter.unusedVariables false
set_option linter.unusedSimpArgs false
set_option maxRecDepth 100000
attribute [local go_sem] Oper.semAt_some eq_fn eq_nil

/-- what has been collected since wa, in the cell of block L, behind a first slice of block e -/
structure Got (wa : World) (L e lo : Nat) (pre : List Int) (O : Nat → Prop) (W : World) : Prop where
  out : ∃ u, Blk W L [u] 33 ∧ View W lo 3 1 u pre.length (pre.map (Value.int .i64)) ∧ ∀ g, u.ownBlock = some g → O g ∧ g ≠ L
  fr : Fr [L, e] wa W
  own : O L
  old : ∀ b, b < wa.heap.size → O b → b = L ∨ b = e
theorem Got.keeps {wa : World} {L e lo : Nat} {pre : List Int} {O : Nat → Prop} {W W' : World} (h : Got wa L e lo pre O W) (hk : Keeps (fun k => O k ∨ (k < wa.heap.size ∧ k ∉ [])) W W') : Got wa L e lo pre O W' := by
  obtain ⟨⟨u, h1, h2, h3⟩, h4, h5, h6⟩ := h
  exact ⟨⟨u, h1.keeps hk (.inl h5), h2.keeps (fun g hg => hk.block g (h2.lt hg).2 (.inl (h3 g hg).1)), h3⟩, fr_keeps h4 hk (fun k h _ => .inr ⟨by omega, by simp⟩), h5, h6⟩
theorem Got.push {wa : World} {L e lo : Nat} {pre : List Int} {O : Nat → Prop} {W V5 : World} {ua a5 : Option Addr} {uc k c5 : Nat} {x : Int} (hk : k = pre.length) (hL : lo ≤ L ∧ L < wa.heap.size)
    (hu : Blk W L [.slice ua k uc] 33) (hV : View W lo 3 1 (.slice ua k uc) k (pre.map (Value.int .i64))) (hown : ∀ g, (Value.slice ua k uc).ownBlock = some g → O g ∧ g ≠ L) (hfr : Fr [L, e] wa W) (hO : O L) (hold : ∀ b, b < wa.heap.size → O b → b = L ∨ b = e)
    (h5 : View V5 lo 3 1 (.slice a5 (k + 1) c5) (k + 1) (pre.map (Value.int .i64) ++ [.int .i64 x])) (hg : (W.alloc (.cells #[.int .i64 x] 3)).grownBy V5 (Value.slice ua k uc).ownBlock)
    (ho : (Value.slice a5 (k + 1) c5).ownBlock = (Value.slice ua k uc).ownBlock ∨ (Value.slice a5 (k + 1) c5).ownBlock = some (W.alloc (.cells #[.int .i64 x] 3)).heap.size) :
    Blk V5 L [.slice ua k uc] 33 ∧ ∀ V, V = V5.setCell ⟨L, 0, none⟩ (.slice a5 (k + 1) c5) → Keeps (fun k => ¬ O k) W V ∧ Got wa L e lo (pre ++ [x]) (grow O W V) V := by
  have f1 : Fr [] W (W.alloc (.cells #[.int .i64 x] 3)) := (Fr.refl _ _).alloc _
  have b1 : Blk V5 L [.slice ua k uc] 33 := (hg.block _ (by simp; have := hu.lt; omega) (fun e => (hown _ e.symm).2 rfl)).trans (hu.fr f1 (by simp))
  refine ⟨b1, fun V hVe => ?_⟩
  have hz5 := hg.size
  simp at hz5
  have hzV : V.heap.size = V5.heap.size := by rw [hVe]; simp [World.setCell]
  have hzW := hfr.size
  have ownn : ∀ g, (Value.slice a5 (k + 1) c5).ownBlock = some g → grow O W V g ∧ g ≠ L := fun g hgg => by
    rcases ho with ho | ho
    · rw [ho] at hgg; exact ⟨.inl (hown g hgg).1, (hown g hgg).2⟩
    · rw [ho] at hgg
      simp at hgg
      have := (h5.lt (g := g) (by rw [ho]; simp; omega)).2
      exact ⟨.inr ⟨by omega, by omega⟩, by omega⟩
  have KV : Keeps (fun k => ¬ O k) W V := by
    rw [hVe]
    refine ⟨hg.os, hg.tape, hg.output, by simp [World.setCell]; omega, fun j hj hn => ?_⟩
    exact (Below.heap_setCell V5 ⟨L, 0, none⟩ (.slice a5 (k + 1) c5) j (fun e => hn (by have e2 : j = L := e; rw [e2]; exact hO))).trans ((hg.block j (by simp; omega) (fun e => hn (hown j e.symm).1)).trans (Below.heap_alloc _ _ _ hj))
  refine ⟨KV, ⟨.slice a5 (k + 1) c5, ?_, ?_, ownn⟩, fr_keeps hfr KV (fun k h hn => fun h2 => hn (by rcases hold k h h2 with rfl | rfl <;> simp)), .inl hO, fun b hb h => h.elim (hold b hb) (fun h => by omega)⟩
  · rw [hVe]; exact b1.set 0 _
  · rw [hVe, List.length_append, List.length_singleton, ← hk, List.map_append]
    exact h5.keeps (fun g hgg => Below.heap_setCell _ _ _ _ (ownn g hgg).2)
/-- a cell that holds a list, both apart from the blocks bad -/
structure Held (bad : List Nat) (lo L : Nat) (u : Value) (pre : List Int) (W : World) : Prop where
  blk : Blk W L [u] 33
  view : View W lo 3 1 u pre.length (pre.map (Value.int .i64))
  own : ∀ g, u.ownBlock = some g → g ∉ bad
  cell : L ∉ bad
theorem Held.fr {bad S : List Nat} {lo L : Nat} {u : Value} {pre : List Int} {W W' : World} (h : Held bad lo L u pre W) (hf : Fr S W W') (hS : ∀ b ∈ S, b ∈ bad) : Held bad lo L u pre W' :=
  ⟨h.blk.fr hf (fun h2 => h.cell (hS _ h2)), h.view.fr hf (fun g hg h2 => h.own g hg (hS _ h2)), h.own, h.cell⟩
theorem Held.fr0 {bad : List Nat} {lo L : Nat} {u : Value} {pre : List Int} {W W' : World} (h : Held bad lo L u pre W) (hf : Fr [] W W') : Held bad lo L u pre W' := h.fr hf (by simp)
theorem Held.got {bad : List Nat} {lo L e : Nat} {W : World} (h : Held bad lo L (.slice (some ⟨e, 0, none⟩) 0 0) [] W) (he : e ≠ L) : Got W L e lo [] (fun b => b = L ∨ b = e) W :=
  ⟨⟨_, h.blk, h.view, fun g hg => by simp only [Value.ownBlock, Option.some.injEq] at hg; subst hg; exact ⟨.inr rfl, he⟩⟩, Fr.refl _ _, .inl rfl, fun b _ h => h⟩
theorem Got.held {bad : List Nat} {wa : World} {L e lo : Nat} {pre : List Int} {O : Nat → Prop} {W : World} (h : Got wa L e lo pre O W) (hb : ∀ b ∈ bad, b ≠ L ∧ b ≠ e ∧ b < wa.heap.size) : ∃ u, Held bad lo L u pre W := by
  obtain ⟨⟨u, h1, h2, h3⟩, h4, h5, h6⟩ := h
  refine ⟨u, h1, h2, fun g hg hm => ?_, fun hm => (hb _ hm).1 rfl⟩
  rcases h6 g (hb _ hm).2.2 (h3 g hg).1 with h | h
  · exact (hb _ hm).1 h
  · exact (hb _ hm).2.1 h
theorem blk_at {W : World} {B : Nat} (cs : List Value) (t : TypeId) (h : B = W.heap.size) : Blk (W.alloc (.cells cs.toArray t)) B cs t := by
  subst h; exact Blk.new W cs t
/-- three empty lists in three cells, and a number in a fourth one -/
theorem four (w5 : World) (k : Int) : ∃ wa z, z = w5.heap.size ∧ wa = (((((((w5.alloc (.cells #[] 3)).alloc (.cells #[] 3)).alloc (.cells #[] 3)).alloc (.cells #[.slice (some ⟨w5.heap.size, 0, none⟩) 0 0] 33)).alloc
      (.cells #[.slice (some ⟨w5.heap.size + 1, 0, none⟩) 0 0] 33)).alloc (.cells #[.slice (some ⟨w5.heap.size + 1 + 1, 0, none⟩) 0 0] 33)).alloc (.cells #[.int .i64 k] 3)) ∧
    wa.heap.size = z + 7 ∧ Fr [] w5 wa ∧
    Held [z + 1 + 1 + 1 + 1, z + 1, z + 1 + 1 + 1 + 1 + 1, z + 1 + 1] z (z + 1 + 1 + 1) (.slice (some ⟨z, 0, none⟩) 0 0) [] wa ∧
    Held [z + 1 + 1 + 1, z, z + 1 + 1 + 1 + 1 + 1, z + 1 + 1] z (z + 1 + 1 + 1 + 1) (.slice (some ⟨z + 1, 0, none⟩) 0 0) [] wa ∧
    Held [z + 1 + 1 + 1, z, z + 1 + 1 + 1 + 1, z + 1] z (z + 1 + 1 + 1 + 1 + 1) (.slice (some ⟨z + 1 + 1, 0, none⟩) 0 0) [] wa ∧
    Blk wa (z + 1 + 1 + 1 + 1 + 1 + 1) [.int .i64 k] 3 := by
  refine ⟨_, _, rfl, rfl, by simp, ((((((((Fr.refl [] w5).alloc _).alloc _).alloc _).alloc _).alloc _).alloc _).alloc _), ⟨?_, ?_, ?_, ?_⟩, ⟨?_, ?_, ?_, ?_⟩, ⟨?_, ?_, ?_, ?_⟩, ?_⟩
  · exact (((blk_at [_] _ (by simp)).alloc _).alloc _).alloc _
  · exact View.of_blk (((((((Blk.new w5 [] _).alloc _).alloc _).alloc _).alloc _).alloc _).alloc _) (by omega) rfl (by decide)
  · intro g hg; simp only [Value.ownBlock, Option.some.injEq] at hg; subst hg; simp <;> omega
  · simp <;> omega
  · exact ((blk_at [_] _ (by simp)).alloc _).alloc _
  · exact View.of_blk ((((((blk_at [] _ (by simp)).alloc _).alloc _).alloc _).alloc _).alloc _) (by omega) rfl (by decide)
  · intro g hg; simp only [Value.ownBlock, Option.some.injEq] at hg; subst hg; simp <;> omega
  · simp <;> omega
  · exact (blk_at [_] _ (by simp)).alloc _
  · exact View.of_blk (((((blk_at [] _ (by simp)).alloc _).alloc _).alloc _).alloc _) (by omega) rfl (by decide)
  · intro g hg; simp only [Value.ownBlock, Option.some.injEq] at hg; subst hg; simp <;> omega
  · simp <;> omega
  · exact blk_at [_] _ (by simp)
end Go.Proofs.Ytcnoaflojojfkab.Seqs
