/- A loop over an iterator that may write, or range over another one: its law. No condition. -/
import Derived.Test.YtcnoaflojojfkabRange
namespace Go.Proofs.Ytcnoaflojojfkab
open Go.RowKit Go.Shelf
set_option linter.unusedVariables false
set_option linter.unusedSimpArgs false

/-- the blocks of Z lie as they lay, and the streams do -/
structure Keeps (Z : Nat → Prop) (w w' : World) : Prop where
  os : w'.os = w.os
  tape : w'.tape = w.tape
  output : w'.output = w.output
  size : w.heap.size ≤ w'.heap.size
  block : ∀ k, k < w.heap.size → Z k → w'.heap[k]? = w.heap[k]?
theorem Keeps.refl (Z : Nat → Prop) (w : World) : Keeps Z w w := ⟨rfl, rfl, rfl, Nat.le_refl _, fun _ _ _ => rfl⟩
theorem Keeps.trans {Z Z' : Nat → Prop} {a b c : World} (h : Keeps Z a b) (k : Keeps Z' b c) (hz : ∀ k, k < a.heap.size → Z k → Z' k) : Keeps Z a c :=
  ⟨k.os.trans h.os, k.tape.trans h.tape, k.output.trans h.output, Nat.le_trans h.size k.size, fun i hi hZ => (k.block i (Nat.lt_of_lt_of_le hi h.size) (hz i hi hZ)).trans (h.block i hi hZ)⟩
theorem Keeps.same {Z : Nat → Prop} {a b c : World} (h : Keeps Z a b) (k : Keeps Z b c) : Keeps Z a c := h.trans k (fun _ _ h => h)
theorem Keeps.less {Z Z' : Nat → Prop} {a b : World} (h : Keeps Z a b) (hz : ∀ k, k < a.heap.size → Z' k → Z k) : Keeps Z' a b := ⟨h.os, h.tape, h.output, h.size, fun k hk hZ => h.block k hk (hz k hk hZ)⟩
theorem Keeps.of_fr {S : List Nat} {Z : Nat → Prop} {w w' : World} (h : Fr S w w') (hz : ∀ k, k < w.heap.size → Z k → k ∉ S) : Keeps Z w w' := ⟨h.os, h.tape, h.output, h.size, fun k hk hZ => h.block k hk (hz k hk hZ)⟩
theorem Keeps.fr {S : List Nat} {w w' : World} (h : Keeps (fun k => k ∉ S) w w') : Fr S w w' := ⟨h.os, h.tape, h.output, h.size, fun k hk hn => h.block k hk hn⟩
theorem Keeps.alloc (Z : Nat → Prop) (w : World) (o : Obj) : Keeps Z w (w.alloc o) := ⟨rfl, rfl, rfl, by simp, fun k hl _ => Below.heap_alloc _ _ _ hl⟩
theorem Keeps.put {Z : Nat → Prop} (w : World) {l : Nat} (o : Obj) (h : ¬ Z l) : Keeps Z w (w.putObj l o) :=
  ⟨rfl, rfl, rfl, by simp, fun k _ hk => World.putObj_heap_other (fun e => h (e ▸ hk))⟩
theorem Blk.keeps {Z : Nat → Prop} {w w' : World} {b : Nat} {cs : List Value} {t : TypeId} (h : Blk w b cs t) (k : Keeps Z w w') (hz : Z b) : Blk w' b cs t := (k.block b h.lt hz).trans h
/-- the blocks of the rounds, and those that were made meanwhile -/
def grow (O : Nat → Prop) (A B : World) : Nat → Prop := fun b => O b ∨ (A.heap.size ≤ b ∧ b < B.heap.size)

/-- what an iterator owes, for whatever rounds that write their own blocks alone (O: those at the start); T: the blocks that it may write itself -/
def SeqT {α : Type} (P : Program) (g : Nat) (lb : Array Value) (encs : α → Array Value) (T : List Nat) (O0 : Nat → Prop) (S Sp : List α → World → Prop) (N : Nat) (w : World) : Prop :=
  ∀ (l : Nat) (J Jx : List α → (Nat → Prop) → World → Prop) (W : World), Below w.heap.size w W → w.heap.size ≤ l → l < W.heap.size →
    (∀ s O A B, J s O A → Keeps (fun k => O k ∨ (k < W.heap.size ∧ k ∉ T)) A B → J s O B) → (∀ s O A B, Jx s O A → Keeps (fun k => O k ∨ (k < W.heap.size ∧ k ∉ T)) A B → Jx s O B) →
    (∀ pre x O W1, J pre O W1 → pre.length < N → YieldAt Fence.wide 7 P l (encs x) W1 fun e W' =>
      (e = .returned (.bool true) ∧ J (pre ++ [x]) (grow O W1 W') W' ∧ Keeps (fun k => ¬ O k) W1 W') ∨ (e = .returned (.bool false) ∧ Jx (pre ++ [x]) (grow O W1 W') W' ∧ Keeps (fun k => ¬ O k ∧ k ≠ l) W1 W')) →
    J [] O0 W →
    CallsIn Fence.wide 8 P g (#[.func (.yield l) #[] #[]] ++ lb) W fun e W' => (∃ v, e = .returned v) ∧ ((∃ xs O, S xs W' ∧ J xs O W') ∨ (∃ pre O, Sp pre W' ∧ Jx pre O W'))

/-- what is said of the rounds' blocks, and of those below B that are not among T -/
def LowT {β : Type} (B : Nat) (T : List Nat) (I : β → (Nat → Prop) → World → Prop) : Prop := ∀ s O W W', I s O W → Keeps (fun k => O k ∨ (k < B ∧ k ∉ T)) W W' → I s O W'
def Low0 {β : Type} (B : Nat) (S : β → World → Prop) : Prop := ∀ s W W', S s W → Keeps (fun k => k < B) W W' → S s W'

/-- how a round may be left -/
def roundPost {α : Type} (O : Nat → Prop) (I : List α → (Nat → Prop) → World → Prop) (Ix : Code → List α → (Nat → Prop) → World → Prop) (xs : List α) (W : World) : Exit → Act → World → Prop
  | .normal, _, W' => Keeps (fun k => ¬ O k) W W' ∧ I xs (grow O W W') W'
  | .ret, _, W' => Keeps (fun k => ¬ O k) W W' ∧ Ix .ret xs (grow O W W') W'
  | .exit id, _, W' => Keeps (fun k => ¬ O k) W W' ∧ Ix (.exit id) xs (grow O W W') W'
  | .goto t, _, W' => Keeps (fun k => ¬ O k) W W' ∧ Ix (.goto t) xs (grow O W W') W'
  | .panic _, _, _ => False
  | .outgrown, _, _ => False

theorem wpIn_loop_over {α : Type} {P : Program} {g : Operand} {ps : Array Tmp} {assign body : Code} {Q : Exit → Act → World → Prop} {a : Act} {w : World} {gf : Nat} {lb : Array Value}
    (hg : a.eval g = .func (.func gf) #[] lb) (eg : ∀ args w, (callFunc gf args).run P w = .ok (.enter gf args) w)
    {encs : α → Array Value} {T : List Nat} {O0 : Nat → Prop} {S Sp : List α → World → Prop} {N : Nat} {w0 : World} (hseq : SeqT P gf lb encs T O0 S Sp N w0) (hO : ∀ b, O0 b → b < w.heap.size)
    (hT : ∀ b ∈ T, b < w.heap.size) (hb0 : Below w0.heap.size w0 w) (hps : ∀ x, (encs x).size = ps.size)
    (I : List α → (Nat → Prop) → World → Prop) (Ix : Code → List α → (Nat → Prop) → World → Prop) (hI : LowT w.heap.size T I) (hIx : ∀ c, LowT w.heap.size T (Ix c)) (h0 : I [] O0 w)
    (hS : Low0 w.heap.size S) (hSp : Low0 w.heap.size Sp) (a₁ : α → Act)
    (hassign : ∀ (l : Nat) (x : α) (W : World) (K : Act → World → Prop), K (a₁ x) W →
      assign.wpIn (Fence.wide.inRound l) 7 P (Exit.then K (fun _ _ _ => False)) { tmps := (ps.zip (encs x)).foldl (fun t (p, v) => t.setIfInBounds p v) a.tmps, defers := [] } W)
    (hbody : ∀ (l : Nat) (pre : List α) (x : α) (O : Nat → Prop) (W : World), I pre O W → pre.length < N → w.heap.size < W.heap.size → (∀ b, O b → b < W.heap.size) → body.wpIn (Fence.wide.inRound l) 7 P (roundPost O I Ix (pre ++ [x]) W) (a₁ x) W)
    (hdone : ∀ (D : Nat) (xs : List α) (O : Nat → Prop) (W : World), (w.heap.size ≤ D ∧ ¬ O D ∧ ∀ b, O b → b < W.heap.size) → S xs W → I xs O W → W.heap[D]? = some (.deferred (some [])) → Q .normal { a with defers := { target := .collected D, args := #[] } :: a.defers } W)
    (hstop : ∀ (D : Nat) (c : Code) (pre : List α) (O : Nat → Prop) (W : World), (w.heap.size ≤ D ∧ ¬ O D) → Sp pre W → Ix c pre O W → W.heap[D]? = some (.deferred (some [])) → c.wpIn Fence.wide 9 P Q { a with defers := { target := .collected D, args := #[] } :: a.defers } W) :
    (Code.rangeFunc g ps assign body).wpIn Fence.wide 9 P Q a w := by
  refine wpIn_rangeFunc ?_
  intro fn hfn
  rw [Fence.wide_round]
  obtain ⟨rec, hrec⟩ : ∃ rec : LoopState → Option Code → Loop, rec = fun st pe => { state := st, pending := pe, fn, tmps := a.tmps, params := ps, assign, body, defers := w.heap.size } := ⟨_, rfl⟩
  obtain ⟨W1, hW1⟩ : ∃ W1, (w.alloc (.deferred (some []))).alloc (.loop (rec .ready none)) = W1 := ⟨_, rfl⟩
  have hz : W1.heap.size = w.heap.size + 1 + 1 := by rw [← hW1]; simp
  have hL1 : W1.heap[w.heap.size + 1]? = some (.loop (rec .ready none)) := by
    rw [← hW1]; have := World.alloc_heap_new (w.alloc (.deferred (some []))) (.loop (rec .ready none)); rwa [World.size_alloc] at this
  have hD1 : W1.heap[w.heap.size]? = some (.deferred (some [])) := by
    rw [← hW1]; exact (Below.heap_alloc _ _ _ (by simp)).trans (World.alloc_heap_new w _)
  have hI1 : I [] O0 W1 := by rw [← hW1]; exact hI _ _ _ _ (hI _ _ _ _ h0 (Keeps.alloc _ _ _)) (Keeps.alloc _ _ _)
  have hb1 : Below w0.heap.size w0 W1 := by
    rw [← hW1]; exact hb0.trans ((((Below.refl _ w).alloc (Nat.le_refl _) _).alloc (by simp) _).mono hb0.size)
  refine ⟨w.heap.size + 1, [{ target := .collected w.heap.size, args := #[] }], W1, { target := .fn (.func gf) lb, args := #[.func (.yield (w.heap.size + 1)) #[] #[]] }, W1, gf,
    #[.func (.yield (w.heap.size + 1)) #[] #[]] ++ lb, W1, ?_, ?_, ?_, ?_, fun _ => by omega, ?_⟩
  · rw [← hW1, hrec]; exact run_enterLoop_outer _ _ _ _ _
  · simp only [resolve, hg]
    simp [go_sem]
  · intro f' _; trivial
  · simp [invoke, go_sem, eg]
  · have nT : ∀ k, w.heap.size ≤ k → k ∉ T := fun k hk hm => by have := hT k hm; omega
    have low : ∀ {O : Nat → Prop} {A B : World} (o : Obj) (k : Nat), w.heap.size ≤ k → k < W1.heap.size → A.heap[k]? = some o → Keeps (fun k => O k ∨ (k < W1.heap.size ∧ k ∉ T)) A B → B.heap[k]? = some o := fun {O A B} o k h1 h2 ho hk =>
      (hk.block k (Array.getElem?_eq_some_iff.1 ho).1 (.inr ⟨h2, nT k h1⟩)).trans ho
    have kless : ∀ {O : Nat → Prop} {A B : World}, Keeps (fun k => O k ∨ (k < W1.heap.size ∧ k ∉ T)) A B → Keeps (fun k => O k ∨ (k < w.heap.size ∧ k ∉ T)) A B := fun {O A B} h => h.less (fun k _ hz => hz.imp id (fun h2 => ⟨by omega, h2.2⟩))
    have kput : ∀ {O : Nat → Prop} (W : World) (k : Nat) (o : Obj), w.heap.size ≤ k → ¬ O k → Keeps (fun k => O k ∨ (k < w.heap.size ∧ k ∉ T)) W (W.putObj k o) := fun {O} W k o h1 h2 => Keeps.put _ _ (fun h => h.elim h2 (fun h3 => by omega))
    refine (hseq (w.heap.size + 1)
      (fun pre O W => I pre O W ∧ W.heap[w.heap.size + 1]? = some (.loop (rec .ready none)) ∧ W.heap[w.heap.size]? = some (.deferred (some [])) ∧ ¬ O (w.heap.size + 1) ∧ ¬ O w.heap.size ∧ ∀ b, O b → b < W.heap.size)
      (fun pre O W => ∃ c, Ix c pre O W ∧ W.heap[w.heap.size + 1]? = some (.loop (rec .done (some c))) ∧ W.heap[w.heap.size]? = some (.deferred (some [])) ∧ ¬ O (w.heap.size + 1) ∧ ¬ O w.heap.size)
      W1 hb1 (by have := hb0.size; omega) (by omega)
      (fun s O A B h hk => ⟨hI s O A B h.1 (kless hk), low _ _ (by omega) (by omega) h.2.1 hk, low _ _ (Nat.le_refl _) (by omega) h.2.2.1 hk, h.2.2.2.1, h.2.2.2.2.1, fun b hb => Nat.lt_of_lt_of_le (h.2.2.2.2.2 b hb) hk.size⟩)
      (fun s O A B h hk => by
        obtain ⟨c, h1, h2, h3, h4, h5⟩ := h
        exact ⟨c, hIx c s O A B h1 (kless hk), low _ _ (by omega) (by omega) h2 hk, low _ _ (Nat.le_refl _) (by omega) h3 hk, h4, h5⟩)
      ?_ ⟨hI1, hL1, hD1, fun h => by have := hO _ h; omega, fun h => by have := hO _ h; omega, fun b hb => by have := hO b hb; omega⟩).mono ?_
    · rintro pre x O W ⟨hi, hl, hk, hnl, hnk, hOW⟩ hlen
      have hlt : w.heap.size + 1 < W.heap.size := (Array.getElem?_eq_some_iff.1 hl).1
      have hy := run_yield (P := P) (args := encs x) hl (by rw [hrec]; exact hps x)
      rw [hrec] at hy
      refine ⟨fn, _, assign, body, hy, roundIn_of_wpIn hfn (hassign _ x W _ ?_)⟩
      clear hy
      refine ⟨_, run_beginRound hl (by rw [hrec]), ?_⟩
      obtain ⟨Wb, hWb⟩ : ∃ Wb, Wb = W.putObj (w.heap.size + 1) (.loop { rec .ready none with state := .busy }) := ⟨_, rfl⟩
      rw [← hWb]
      have hl2 : Wb.heap[w.heap.size + 1]? = some (.loop { rec .ready none with state := .busy }) := by rw [hWb]; exact World.putObj_heap_same hlt
      have hk2 : Wb.heap[w.heap.size]? = some (.deferred (some [])) := by rw [hWb]; exact (World.putObj_heap_other (by omega)).trans hk
      have hi2 : I pre O Wb := by rw [hWb]; exact hI _ _ _ _ hi (kput _ _ _ (by omega) hnl)
      have hz2 : Wb.heap.size = W.heap.size := by rw [hWb]; simp
      have hfW : Keeps (fun k => k ≠ w.heap.size + 1) W Wb := by rw [hWb]; exact Keeps.put _ _ (by simp)
      have gr : ∀ (W3 : World) (o : Obj), grow O W (W3.putObj (w.heap.size + 1) o) = grow O Wb W3 := fun W3 o => by unfold grow; rw [hz2]; simp
      have ng : ∀ (W3 : World) (k : Nat), k < W.heap.size → ¬ O k → ¬ grow O Wb W3 k := fun W3 k h1 h2 h => h.elim h2 (fun h3 => by omega)
      refine wpIn_mono (hbody _ pre x O Wb hi2 hlen (by omega) (fun b hb => by have := hOW b hb; omega)) ?_
      have fin : ∀ (jump : Option Code) (W3 : World), Keeps (fun k => ¬ O k) Wb W3 →
          (Instr.endRound (w.heap.size + 1) jump).run P W3 = .ok (.bool jump.isNone) (W3.putObj (w.heap.size + 1) (.loop (rec (if jump.isNone then .ready else .done) jump))) ∧
          (W3.putObj (w.heap.size + 1) (.loop (rec (if jump.isNone then .ready else .done) jump))).heap[w.heap.size + 1]? = some (.loop (rec (if jump.isNone then .ready else .done) jump)) ∧
          (W3.putObj (w.heap.size + 1) (.loop (rec (if jump.isNone then .ready else .done) jump))).heap[w.heap.size]? = some (.deferred (some [])) := fun jump W3 hf => by
        have hl3 := (hf.block _ (by omega) hnl).trans hl2
        have hk3 := (hf.block _ (by omega) hnk).trans hk2
        have := run_endRound (P := P) jump hl3
        rw [hrec] at this ⊢
        exact ⟨this, World.putObj_heap_same (Array.getElem?_eq_some_iff.1 hl3).1, (World.putObj_heap_other (by omega)).trans hk3⟩
      have frx : ∀ (o : Obj) (W3 : World), Keeps (fun k => ¬ O k) Wb W3 → Keeps (fun k => ¬ O k ∧ k ≠ w.heap.size + 1) W (W3.putObj (w.heap.size + 1) o) := fun o W3 hf =>
        ((hfW.less (fun k _ h => h.2)).trans hf (fun k _ h => h.1)).same (Keeps.put _ _ (fun h => h.2 rfl))
      have post : ∀ (W3 : World) (o : Obj), Keeps (fun k => ¬ O k) Wb W3 → ¬ grow O W (W3.putObj (w.heap.size + 1) o) (w.heap.size + 1) ∧ ¬ grow O W (W3.putObj (w.heap.size + 1) o) w.heap.size := fun W3 o hf => by
        rw [gr]; exact ⟨ng W3 _ hlt hnl, ng W3 _ (by omega) hnk⟩
      rintro e a3 W3 hp
      cases e with
      | normal =>
        obtain ⟨hf, hi3⟩ := hp
        obtain ⟨hr, hl4, hk4⟩ := fin none W3 hf
        obtain ⟨p1, p2⟩ := post W3 (.loop (rec .ready none)) hf
        have fx := frx (.loop (rec .ready none)) W3 hf
        refine ⟨_, _, hr, .inl ⟨rfl, ⟨?_, hl4, hk4, p1, p2, fun b hb => ?_⟩, ?_⟩⟩
        · rw [gr]; exact hI _ _ _ _ hi3 (kput _ _ _ (by omega) (ng W3 _ hlt hnl))
        · rcases hb with hb | hb
          · have := hOW b hb; have := fx.size; exact Nat.lt_of_lt_of_le (hOW b hb) fx.size
          · exact hb.2
        · refine ⟨fx.os, fx.tape, fx.output, fx.size, fun k hk hn => ?_⟩
          by_cases e : k = w.heap.size + 1
          · subst e; exact hl4.trans hl.symm
          · exact fx.block k hk ⟨hn, e⟩
      | ret =>
        obtain ⟨hf, hi3⟩ := hp
        obtain ⟨hr, hl4, hk4⟩ := fin (some .ret) W3 hf
        obtain ⟨p1, p2⟩ := post W3 (.loop (rec .done (some .ret))) hf
        exact ⟨_, _, hr, .inr ⟨rfl, ⟨.ret, by rw [gr]; exact hIx _ _ _ _ _ hi3 (kput _ _ _ (by omega) (ng W3 _ hlt hnl)), hl4, hk4, p1, p2⟩, frx _ W3 hf⟩⟩
      | exit id =>
        obtain ⟨hf, hi3⟩ := hp
        obtain ⟨hr, hl4, hk4⟩ := fin (some (.exit id)) W3 hf
        obtain ⟨p1, p2⟩ := post W3 (.loop (rec .done (some (.exit id)))) hf
        exact ⟨_, _, hr, .inr ⟨rfl, ⟨.exit id, by rw [gr]; exact hIx _ _ _ _ _ hi3 (kput _ _ _ (by omega) (ng W3 _ hlt hnl)), hl4, hk4, p1, p2⟩, frx _ W3 hf⟩⟩
      | goto t =>
        obtain ⟨hf, hi3⟩ := hp
        obtain ⟨hr, hl4, hk4⟩ := fin (some (.goto t)) W3 hf
        obtain ⟨p1, p2⟩ := post W3 (.loop (rec .done (some (.goto t)))) hf
        exact ⟨_, _, hr, .inr ⟨rfl, ⟨.goto t, by rw [gr]; exact hIx _ _ _ _ _ hi3 (kput _ _ _ (by omega) (ng W3 _ hlt hnl)), hl4, hk4, p1, p2⟩, frx _ W3 hf⟩⟩
      | panic ch => exact hp.elim
      | outgrown => exact hp.elim
    · have kS : ∀ (W : World) (o : Obj), Keeps (fun k => k < w.heap.size) W (W.putObj (w.heap.size + 1) o) := fun W o => Keeps.put _ _ (by omega)
      rintro e W2 ⟨⟨v, rfl⟩, (⟨xs, O, hs, hi, hl, hk, hn1, hn2, hO6⟩ | ⟨pre, O, hs, c, hi, hl, hk, hn1, hn2⟩)⟩
      · exact ⟨none, _, by have := run_endLoop (P := P) hl (by rw [hrec]; simp); rw [hrec] at this; exact this,
          hdone _ xs O _ ⟨Nat.le_refl _, hn2, fun b hb => by simpa using hO6 b hb⟩ (hS _ _ _ hs (kS _ _)) (hI _ _ _ _ hi (kput _ _ _ (by omega) hn1)) ((World.putObj_heap_other (by omega)).trans hk)⟩
      · exact ⟨some c, _, by have := run_endLoop (P := P) hl (by rw [hrec]; simp); rw [hrec] at this; exact this,
          hstop _ c pre O _ ⟨Nat.le_refl _, hn2⟩ (hSp _ _ _ hs (kS _ _)) (hIx c _ _ _ _ hi (kput _ _ _ (by omega) hn1)) ((World.putObj_heap_other (by omega)).trans hk)⟩

/-- .. and what stands behind the loop, once -/
theorem wp_loop_block {α : Type} {P : Program} {id : Nat} {g : Operand} {ps : Array Tmp} {assign body : Code} {Q : Exit → Act → World → Prop} {a : Act} {w : World} {gf : Nat} {lb : Array Value}
    (hg : a.eval g = .func (.func gf) #[] lb) (eg : ∀ args w, (callFunc gf args).run P w = .ok (.enter gf args) w)
    {encs : α → Array Value} {T : List Nat} {O0 : Nat → Prop} {S Sp : List α → World → Prop} {N : Nat} {w0 : World} (hseq : SeqT P gf lb encs T O0 S Sp N w0) (hO : ∀ b, O0 b → b < w.heap.size)
    (hT : ∀ b ∈ T, b < w.heap.size) (hb0 : Below w0.heap.size w0 w) (hps : ∀ x, (encs x).size = ps.size)
    (I : List α → (Nat → Prop) → World → Prop) (Ix : Code → List α → (Nat → Prop) → World → Prop) (hI : LowT w.heap.size T I) (hIx : ∀ c, LowT w.heap.size T (Ix c)) (h0 : I [] O0 w)
    (hS : Low0 w.heap.size S) (hSp : Low0 w.heap.size Sp) (J : Nat → World → Prop) (a₁ : α → Act)
    (hassign : ∀ (l : Nat) (x : α) (W : World) (K : Act → World → Prop), K (a₁ x) W →
      assign.wpIn (Fence.wide.inRound l) 7 P (Exit.then K (fun _ _ _ => False)) { tmps := (ps.zip (encs x)).foldl (fun t (p, v) => t.setIfInBounds p v) a.tmps, defers := [] } W)
    (hbody : ∀ (l : Nat) (pre : List α) (x : α) (O : Nat → Prop) (W : World), I pre O W → pre.length < N → w.heap.size < W.heap.size → (∀ b, O b → b < W.heap.size) → body.wpIn (Fence.wide.inRound l) 7 P (roundPost O I Ix (pre ++ [x]) W) (a₁ x) W)
    (hdone : ∀ (D : Nat) (xs : List α) (O : Nat → Prop) (W : World), (w.heap.size ≤ D ∧ ¬ O D ∧ ∀ b, O b → b < W.heap.size) → S xs W → I xs O W → W.heap[D]? = some (.deferred (some [])) → J D W)
    (hstop : ∀ (D : Nat) (c : Code) (pre : List α) (O : Nat → Prop) (W : World), (w.heap.size ≤ D ∧ ¬ O D) → Sp pre W → Ix c pre O W → W.heap[D]? = some (.deferred (some [])) →
      (c = .exit id ∧ J D W) ∨ (c = .ret ∧ Q .ret { a with defers := { target := .collected D, args := #[] } :: a.defers } W))
    (htail : ∀ (D : Nat) (W : World), J D W → Q .normal { a with defers := { target := .collected D, args := #[] } :: a.defers } W) :
    (Code.block id (Code.rangeFunc g ps assign body)).wp P Q a w := by
  refine wp_block ((wpIn_wide (n := 9)).1 (wpIn_loop_over hg eg hseq hO hT hb0 hps I Ix hI hIx h0 hS hSp a₁ hassign hbody (fun D xs O W h1 h2 h3 h4 => htail D W (hdone D xs O W h1 h2 h3 h4)) (fun D c pre O W h1 h2 h3 h4 => wpIn_wide.2 ?_)))
  rcases hstop D c pre O W h1 h2 h3 h4 with ⟨rfl, hJ⟩ | ⟨rfl, hQ⟩
  · refine wp_exit ?_
    show if id = id then _ else _
    rw [if_pos rfl]
    exact htail D W hJ
  · exact wp_ret hQ
end Go.Proofs.Ytcnoaflojojfkab
