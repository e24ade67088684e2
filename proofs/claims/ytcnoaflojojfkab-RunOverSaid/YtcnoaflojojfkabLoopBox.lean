/- A loop over an iterator, its variable in a cell: its law (after XLoop). No condition. -/
import Derived.Test.YtcnoaflojojfkabLoop
namespace Go.Proofs.Ytcnoaflojojfkab
open Go.RowKit Go.Shelf
set_option linter.unusedVariables false
set_option linter.unusedSimpArgs false
theorem wpIn_loop_box {α : Type} {P : Program} {g : Operand} {ps : Array Tmp} {assign body : Code} {Q : Exit → Act → World → Prop} {a : Act} {w : World} {gf : Nat} {lb : Array Value}
    (hg : a.eval g = .func (.func gf) #[] lb) (eg : ∀ args w, (callFunc gf args).run P w = .ok (.enter gf args) w)
    {encs : α → Array Value} {T : List Nat} {O0 : Nat → Prop} {S Sp : List α → World → Prop} {N : Nat} {w0 : World} (hseq : SeqT P gf lb encs T O0 S Sp N w0) (hO : ∀ b, O0 b → b < w.heap.size)
    (hT : ∀ b ∈ T, b < w.heap.size) (hb0 : Below w0.heap.size w0 w) (hps : ∀ x, (encs x).size = ps.size)
    (I : List α → (Nat → Prop) → World → Prop) (Ix : Code → List α → (Nat → Prop) → World → Prop) (hI : LowT w.heap.size T I) (hIx : ∀ c, LowT w.heap.size T (Ix c)) (h0 : I [] O0 w)
    (hS : Low0 w.heap.size S) (hSp : Low0 w.heap.size Sp) (a₁ : α → Nat → Act) (cs : α → List Value) (ct : TypeId)
    (hassign : ∀ (l : Nat) (x : α) (nb : Nat) (W : World) (K : Act → World → Prop), W.heap.size = nb → K (a₁ x nb) (W.alloc (.cells (cs x).toArray ct)) →
      assign.wpIn (Fence.wide.inRound l) 7 P (Exit.then K (fun _ _ _ => False)) { tmps := (ps.zip (encs x)).foldl (fun t (p, v) => t.setIfInBounds p v) a.tmps, defers := [] } W)
    (hbody : ∀ (l : Nat) (pre : List α) (x : α) (O : Nat → Prop) (nb : Nat) (W : World), I pre O W → pre.length < N → w.heap.size < nb → (∀ b, O b → b < nb) → nb + 1 = W.heap.size → Blk W nb (cs x) ct → body.wpIn (Fence.wide.inRound l) 7 P (roundPost (fun b => O b ∨ b = nb) I Ix (pre ++ [x]) W) (a₁ x nb) W)
    (hdone : ∀ (D : Nat) (xs : List α) (O : Nat → Prop) (W : World), (w.heap.size ≤ D ∧ ¬ O D ∧ ∀ b, O b → b < W.heap.size) → S xs W → I xs O W → W.heap[D]? = some (.deferred (some [])) → Q .normal { a with defers := { target := .collected D, args := #[] } :: a.defers } W)
    (hstop : ∀ (D : Nat) (c : Code) (pre : List α) (O : Nat → Prop) (W : World), (w.heap.size ≤ D ∧ ¬ O D) → Sp pre W → Ix c pre O W → W.heap[D]? = some (.deferred (some [])) → c.wpIn Fence.wide 9 P Q { a with defers := { target := .collected D, args := #[] } :: a.defers } W) :
    (Code.rangeFunc g ps assign body).wpIn Fence.wide 9 P Q a w := by
  refine wpIn_rangeFunc ?_
  intro fn hfn
  rw [Fence.wide_round]
  obtain ⟨rec, hrec⟩ : ∃ rec : LoopState → Option Code → Loop, rec = fun st pe => { state := st, pending := pe, fn, tmps := a.tmps, params := ps, assign, body, defers := w.heap.size } := ⟨_, rfl⟩
  obtain ⟨W1, hW1⟩ : ∃ W1, (w.alloc (.deferred (some []))).alloc (.loop (rec .ready none)) = W1 := ⟨_, rfl⟩
  have hz : W1.heap.size = w.heap.size + 1 + 1 := by rw [← hW1]; simp
  have hL1 : W1.heap[w.heap.size + 1]? = some (.loop (rec .ready none)) := by
    rw [← hW1]; have := World.alloc_heap_new (w.alloc (.deferred (some []))) (.loop (rec .ready none)); rwa [World.size_alloc] at this
  have hD1 : W1.heap[w.heap.size]? = some (.deferred (some [])) := by
    rw [← hW1]; exact (Below.heap_alloc _ _ _ (by simp)).trans (World.alloc_heap_new w _)
  have hI1 : I [] O0 W1 := by rw [← hW1]; exact hI _ _ _ _ (hI _ _ _ _ h0 (Keeps.alloc _ _ _)) (Keeps.alloc _ _ _)
  have hb1 : Below w0.heap.size w0 W1 := by
    rw [← hW1]; exact hb0.trans ((((Below.refl _ w).alloc (Nat.le_refl _) _).alloc (by simp) _).mono hb0.size)
  refine ⟨w.heap.size + 1, [{ target := .collected w.heap.size, args := #[] }], W1, { target := .fn (.func gf) lb, args := #[.func (.yield (w.heap.size + 1)) #[] #[]] }, W1, gf,
    #[.func (.yield (w.heap.size + 1)) #[] #[]] ++ lb, W1, ?_, ?_, ?_, ?_, fun _ => by omega, ?_⟩
  · rw [← hW1, hrec]; exact run_enterLoop_outer _ _ _ _ _
  · simp only [resolve, hg]
    simp [go_sem]
  · intro f' _; trivial
  · simp [invoke, go_sem, eg]
  · have nT : ∀ k, w.heap.size ≤ k → k ∉ T := fun k hk hm => by have := hT k hm; omega
    have low : ∀ {O : Nat → Prop} {A B : World} (o : Obj) (k : Nat), w.heap.size ≤ k → k < W1.heap.size → A.heap[k]? = some o → Keeps (fun k => O k ∨ (k < W1.heap.size ∧ k ∉ T)) A B → B.heap[k]? = some o := fun {O A B} o k h1 h2 ho hk =>
      (hk.block k (Array.getElem?_eq_some_iff.1 ho).1 (.inr ⟨h2, nT k h1⟩)).trans ho
    have kless : ∀ {O : Nat → Prop} {A B : World}, Keeps (fun k => O k ∨ (k < W1.heap.size ∧ k ∉ T)) A B → Keeps (fun k => O k ∨ (k < w.heap.size ∧ k ∉ T)) A B := fun {O A B} h => h.less (fun k _ hz => hz.imp id (fun h2 => ⟨by omega, h2.2⟩))
    have kput : ∀ {O : Nat → Prop} (W : World) (k : Nat) (o : Obj), w.heap.size ≤ k → ¬ O k → Keeps (fun k => O k ∨ (k < w.heap.size ∧ k ∉ T)) W (W.putObj k o) := fun {O} W k o h1 h2 => Keeps.put _ _ (fun h => h.elim h2 (fun h3 => by omega))
    refine (hseq (w.heap.size + 1)
      (fun pre O W => I pre O W ∧ W.heap[w.heap.size + 1]? = some (.loop (rec .ready none)) ∧ W.heap[w.heap.size]? = some (.deferred (some [])) ∧ ¬ O (w.heap.size + 1) ∧ ¬ O w.heap.size ∧ ∀ b, O b → b < W.heap.size)
      (fun pre O W => ∃ c, Ix c pre O W ∧ W.heap[w.heap.size + 1]? = some (.loop (rec .done (some c))) ∧ W.heap[w.heap.size]? = some (.deferred (some [])) ∧ ¬ O (w.heap.size + 1) ∧ ¬ O w.heap.size)
      W1 hb1 (by have := hb0.size; omega) (by omega)
      (fun s O A B h hk => ⟨hI s O A B h.1 (kless hk), low _ _ (by omega) (by omega) h.2.1 hk, low _ _ (Nat.le_refl _) (by omega) h.2.2.1 hk, h.2.2.2.1, h.2.2.2.2.1, fun b hb => Nat.lt_of_lt_of_le (h.2.2.2.2.2 b hb) hk.size⟩)
      (fun s O A B h hk => by
        obtain ⟨c, h1, h2, h3, h4, h5⟩ := h
        exact ⟨c, hIx c s O A B h1 (kless hk), low _ _ (by omega) (by omega) h2 hk, low _ _ (Nat.le_refl _) (by omega) h3 hk, h4, h5⟩)
      ?_ ⟨hI1, hL1, hD1, fun h => by have := hO _ h; omega, fun h => by have := hO _ h; omega, fun b hb => by have := hO b hb; omega⟩).mono ?_
    · rintro pre x O W ⟨hi, hl, hk, hnl, hnk, hOW⟩ hlen
      have hlt : w.heap.size + 1 < W.heap.size := (Array.getElem?_eq_some_iff.1 hl).1
      have hy := run_yield (P := P) (args := encs x) hl (by rw [hrec]; exact hps x)
      rw [hrec] at hy
      refine ⟨fn, _, assign, body, hy, roundIn_of_wpIn hfn (hassign _ x _ W _ rfl ?_)⟩
      clear hy
      obtain ⟨Wa, hWa⟩ : ∃ Wa, Wa = W.alloc (.cells (cs x).toArray ct) := ⟨_, rfl⟩
      rw [← hWa]
      have hza : Wa.heap.size = W.heap.size + 1 := by rw [hWa]; simp
      have hfa : Keeps (fun _ => True) W Wa := by rw [hWa]; exact Keeps.alloc _ _ _
      have hla : Wa.heap[w.heap.size + 1]? = some (.loop (rec .ready none)) := (hfa.block _ hlt trivial).trans hl
      have hka : Wa.heap[w.heap.size]? = some (.deferred (some [])) := (hfa.block _ (by omega) trivial).trans hk
      have hba : Blk Wa W.heap.size (cs x) ct := by rw [hWa]; exact Blk.new W _ _
      refine ⟨_, run_beginRound hla (by rw [hrec]), ?_⟩
      obtain ⟨Wb, hWb⟩ : ∃ Wb, Wb = Wa.putObj (w.heap.size + 1) (.loop { rec .ready none with state := .busy }) := ⟨_, rfl⟩
      rw [← hWb]
      have hl2 : Wb.heap[w.heap.size + 1]? = some (.loop { rec .ready none with state := .busy }) := by rw [hWb]; exact World.putObj_heap_same (by omega)
      have hk2 : Wb.heap[w.heap.size]? = some (.deferred (some [])) := by rw [hWb]; exact (World.putObj_heap_other (by omega)).trans hka
      have hi2 : I pre O Wb := by rw [hWb]; exact hI _ _ _ _ (hI _ _ _ _ hi (hfa.less (fun _ _ _ => trivial))) (kput _ _ _ (by omega) hnl)
      have hz2 : Wb.heap.size = W.heap.size + 1 := by rw [hWb]; simpa using hza
      have hfW : Keeps (fun k => k ≠ w.heap.size + 1) W Wb := by rw [hWb]; exact (hfa.less (fun _ _ _ => trivial)).same (Keeps.put _ _ (by simp))
      have hbb : Blk Wb W.heap.size (cs x) ct := by rw [hWb]; exact hba.keeps (Z := fun k => k ≠ w.heap.size + 1) (Keeps.put _ _ (by simp)) (by omega)
      have gr : ∀ (W3 : World) (o : Obj), Wb.heap.size ≤ W3.heap.size → grow O W (W3.putObj (w.heap.size + 1) o) = grow (fun b => O b ∨ b = W.heap.size) Wb W3 := fun W3 o h3 => by
        unfold grow
        rw [hz2]
        funext b
        simp only [World.putObj_size]
        apply propext
        constructor
        · rintro (h | h)
          · exact .inl (.inl h)
          · by_cases e : b = W.heap.size
            · exact .inl (.inr e)
            · exact .inr ⟨by omega, h.2⟩
        · rintro ((h | h) | h)
          · exact .inl h
          · exact .inr ⟨by omega, by omega⟩
          · exact .inr ⟨by omega, h.2⟩
      have ng : ∀ (W3 : World) (k : Nat), k < W.heap.size → ¬ O k → ¬ grow (fun b => O b ∨ b = W.heap.size) Wb W3 k := fun W3 k h1 h2 h => by
        rcases h with (h | h) | h
        · exact h2 h
        · omega
        · omega
      refine wpIn_mono (hbody _ pre x O W.heap.size Wb hi2 hlen (by omega) (fun b hb => hOW b hb) hz2.symm hbb) ?_
      have fin : ∀ (jump : Option Code) (W3 : World), Keeps (fun k => ¬ (O k ∨ k = W.heap.size)) Wb W3 →
          (Instr.endRound (w.heap.size + 1) jump).run P W3 = .ok (.bool jump.isNone) (W3.putObj (w.heap.size + 1) (.loop (rec (if jump.isNone then .ready else .done) jump))) ∧
          (W3.putObj (w.heap.size + 1) (.loop (rec (if jump.isNone then .ready else .done) jump))).heap[w.heap.size + 1]? = some (.loop (rec (if jump.isNone then .ready else .done) jump)) ∧
          (W3.putObj (w.heap.size + 1) (.loop (rec (if jump.isNone then .ready else .done) jump))).heap[w.heap.size]? = some (.deferred (some [])) := fun jump W3 hf => by
        have hl3 := (hf.block _ (by omega) (fun h => h.elim hnl (by omega))).trans hl2
        have hk3 := (hf.block _ (by omega) (fun h => h.elim hnk (by omega))).trans hk2
        have := run_endRound (P := P) jump hl3
        rw [hrec] at this ⊢
        exact ⟨this, World.putObj_heap_same (Array.getElem?_eq_some_iff.1 hl3).1, (World.putObj_heap_other (by omega)).trans hk3⟩
      have frx : ∀ (o : Obj) (W3 : World), Keeps (fun k => ¬ (O k ∨ k = W.heap.size)) Wb W3 → Keeps (fun k => ¬ O k ∧ k ≠ w.heap.size + 1) W (W3.putObj (w.heap.size + 1) o) := fun o W3 hf =>
        ((hfW.less (fun k _ h => h.2)).trans hf (fun k h0 h h1 => h1.elim h.1 (by omega))).same (Keeps.put _ _ (fun h => h.2 rfl))
      have post : ∀ (W3 : World) (o : Obj), Keeps (fun k => ¬ (O k ∨ k = W.heap.size)) Wb W3 → ¬ grow O W (W3.putObj (w.heap.size + 1) o) (w.heap.size + 1) ∧ ¬ grow O W (W3.putObj (w.heap.size + 1) o) w.heap.size := fun W3 o hf => by
        rw [gr _ _ hf.size]; exact ⟨ng W3 _ hlt hnl, ng W3 _ (by omega) hnk⟩
      rintro e a3 W3 hp
      cases e with
      | normal =>
        obtain ⟨hf, hi3⟩ := hp
        obtain ⟨hr, hl4, hk4⟩ := fin none W3 hf
        obtain ⟨p1, p2⟩ := post W3 (.loop (rec .ready none)) hf
        have fx := frx (.loop (rec .ready none)) W3 hf
        refine ⟨_, _, hr, .inl ⟨rfl, ⟨?_, hl4, hk4, p1, p2, fun b hb => ?_⟩, ?_⟩⟩
        · rw [gr _ _ hf.size]; exact hI _ _ _ _ hi3 (kput _ _ _ (by omega) (ng W3 _ hlt hnl))
        · rcases hb with hb | hb
          · have := hOW b hb; have := fx.size; exact Nat.lt_of_lt_of_le (hOW b hb) fx.size
          · exact hb.2
        · refine ⟨fx.os, fx.tape, fx.output, fx.size, fun k hk hn => ?_⟩
          by_cases e : k = w.heap.size + 1
          · subst e; exact hl4.trans hl.symm
          · exact fx.block k hk ⟨hn, e⟩
      | ret =>
        obtain ⟨hf, hi3⟩ := hp
        obtain ⟨hr, hl4, hk4⟩ := fin (some .ret) W3 hf
        obtain ⟨p1, p2⟩ := post W3 (.loop (rec .done (some .ret))) hf
        exact ⟨_, _, hr, .inr ⟨rfl, ⟨.ret, by rw [gr _ _ hf.size]; exact hIx _ _ _ _ _ hi3 (kput _ _ _ (by omega) (ng W3 _ hlt hnl)), hl4, hk4, p1, p2⟩, frx _ W3 hf⟩⟩
      | exit id =>
        obtain ⟨hf, hi3⟩ := hp
        obtain ⟨hr, hl4, hk4⟩ := fin (some (.exit id)) W3 hf
        obtain ⟨p1, p2⟩ := post W3 (.loop (rec .done (some (.exit id)))) hf
        exact ⟨_, _, hr, .inr ⟨rfl, ⟨.exit id, by rw [gr _ _ hf.size]; exact hIx _ _ _ _ _ hi3 (kput _ _ _ (by omega) (ng W3 _ hlt hnl)), hl4, hk4, p1, p2⟩, frx _ W3 hf⟩⟩
      | goto t =>
        obtain ⟨hf, hi3⟩ := hp
        obtain ⟨hr, hl4, hk4⟩ := fin (some (.goto t)) W3 hf
        obtain ⟨p1, p2⟩ := post W3 (.loop (rec .done (some (.goto t)))) hf
        exact ⟨_, _, hr, .inr ⟨rfl, ⟨.goto t, by rw [gr _ _ hf.size]; exact hIx _ _ _ _ _ hi3 (kput _ _ _ (by omega) (ng W3 _ hlt hnl)), hl4, hk4, p1, p2⟩, frx _ W3 hf⟩⟩
      | panic ch => exact hp.elim
      | outgrown => exact hp.elim
    · have kS : ∀ (W : World) (o : Obj), Keeps (fun k => k < w.heap.size) W (W.putObj (w.heap.size + 1) o) := fun W o => Keeps.put _ _ (by omega)
      rintro e W2 ⟨⟨v, rfl⟩, (⟨xs, O, hs, hi, hl, hk, hn1, hn2, hO6⟩ | ⟨pre, O, hs, c, hi, hl, hk, hn1, hn2⟩)⟩
      · exact ⟨none, _, by have := run_endLoop (P := P) hl (by rw [hrec]; simp); rw [hrec] at this; exact this,
          hdone _ xs O _ ⟨Nat.le_refl _, hn2, fun b hb => by simpa using hO6 b hb⟩ (hS _ _ _ hs (kS _ _)) (hI _ _ _ _ hi (kput _ _ _ (by omega) hn1)) ((World.putObj_heap_other (by omega)).trans hk)⟩
      · exact ⟨some c, _, by have := run_endLoop (P := P) hl (by rw [hrec]; simp); rw [hrec] at this; exact this,
          hstop _ c pre O _ ⟨Nat.le_refl _, hn2⟩ (hSp _ _ _ hs (kS _ _)) (hIx c _ _ _ _ hi (kput _ _ _ (by omega) hn1)) ((World.putObj_heap_other (by omega)).trans hk)⟩

end Go.Proofs.Ytcnoaflojojfkab
