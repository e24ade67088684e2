/- The numbers of one iterator, then those of another one: an iterator over two. No condition. -/
import Derived.Test.YtcnoaflojojfkabSeqsSkip
namespace Go.Proofs.Ytcnoaflojojfkab.Seqs
open Go.RowKit Go.Shelf
set_option linter.unusedVariables false
set_option linter.unusedSimpArgs false
set_option maxRecDepth 100000
attribute [local go_sem] Oper.semAt_some eq_fn eq_nil

theorem lt_of_same {A B : World} {b : Nat} (h : A.heap[b]? = B.heap[b]?) (hb : b < B.heap.size) : b < A.heap.size := by
  rw [Array.getElem?_eq_getElem hb] at h
  exact (Array.getElem?_eq_some_iff.1 h).1
theorem abides_takeAll {J : List Int → (Nat → Prop) → World → Prop} {E : Nat} (hJ : ∀ s O A B, J s O A → Keeps (fun k => O k ∨ (k < E ∧ k ∉ [])) A B → J s O B) {s : List Int} {O : Nat → Prop} :
    ∀ (Ds : List Nat) {V : World}, J s O V → (∀ D ∈ Ds, ¬ O D ∧ E ≤ D) → J s O (takeAll Ds V)
  | [], _, h, _ => h
  | D :: Ds, _, h, hD => abides_takeAll hJ Ds (hJ _ _ _ _ h (Keeps.put _ _ (fun h2 => h2.elim (hD D (by simp)).1 (fun h3 => by have := (hD D (by simp)).2; omega)))) (fun D' h' => hD D' (by simp [h']))

set_option maxHeartbeats 8000000 in
theorem both_stops (B1 B2 : Nat) (D1 D2 : List Nat) (f g : Value) (xs ys : List Int) (w w' : World) (O0 : Nat → Prop) (hB1 : Blk w B1 [f] 36) (hB2 : Blk w B2 [g] 36) (hif : It w D1 f xs) (hig : It w D2 g ys)
    (hs : w.heap.size ≤ w'.heap.size) (hD : ∀ b ∈ B1 :: B2 :: (D1 ++ D2), w'.heap[b]? = w.heap[b]?) (hO : ∀ b, O0 b → b < w'.heap.size) (hno : ∀ b ∈ B1 :: B2 :: (D1 ++ D2), ¬ O0 b) :
    SeqT Try.prog 69 #[.pointer (some ⟨B1, 0, none⟩), .pointer (some ⟨B2, 0, none⟩)] (fun x : Int => #[.int .i64 x]) [] O0 (fun zs _ => zs = xs ++ ys) (fun pre _ => pre <+: xs ++ ys) (xs ++ ys).length w' := by
  intro l J Jx W hW hl1 hl2 hJ hJx hY h0
  have keepW : ∀ b, b ∈ B1 :: B2 :: (D1 ++ D2) → b < w.heap.size → W.heap[b]? = w.heap[b]? := fun b hb hlt => (hW.block b (by omega)).trans (hD b hb)
  obtain ⟨g1, lb1, rfl, hent1, hDs1, hseq1⟩ := hif
  obtain ⟨g2, lb2, rfl, hent2, hDs2, hseq2⟩ := hig
  have hsW : w.heap.size ≤ W.heap.size := Nat.le_trans hs hW.size
  have b1 : Blk W B1 [.func (.func g1) #[] lb1] 36 := hB1.of_eq (keepW B1 (by simp) hB1.lt)
  have b2 : Blk W B2 [.func (.func g2) #[] lb2] 36 := hB2.of_eq (keepW B2 (by simp) hB2.lt)
  have HDs1 : Hid (∀ b ∈ D1, b < w.heap.size ∧ ¬ O0 b ∧ W.heap[b]? = w.heap[b]?) := Lib.hid (fun b hb => ⟨hDs1 b hb, hno b (by simp [hb]), keepW b (by simp [hb]) (hDs1 b hb)⟩)
  have HDs2 : Hid (∀ b ∈ D2, b < w.heap.size ∧ ¬ O0 b ∧ W.heap[b]? = w.heap[b]?) := Lib.hid (fun b hb => ⟨hDs2 b hb, hno b (by simp [hb]), keepW b (by simp [hb]) (hDs2 b hb)⟩)
  have hlB : Hid (w'.heap.size ≤ l ∧ l < W.heap.size ∧ w.heap.size ≤ w'.heap.size) := ⟨hl1, hl2, hs⟩
  have HO0 : Hid (∀ b, O0 b → b < W.heap.size) := Lib.hid (fun b hb => by have := hO b hb; have := hW.size; omega)
  have HS1 := Lib.hid hseq1
  have HS2 := Lib.hid hseq2
  have HENT1 : Hid (∀ args w, (callFunc g1 args).run Try.prog w = .ok (.enter g1 args) w) := hent1
  have HENT2 : Hid (∀ args w, (callFunc g2 args).run Try.prog w = .ok (.enter g2 args) w) := hent2
  have HJ : Hid (∀ s O A B, J s O A → Keeps (fun k => O k ∨ (k < W.heap.size ∧ k ∉ [])) A B → J s O B) := hJ
  have HJx : Hid (∀ s O A B, Jx s O A → Keeps (fun k => O k ∨ (k < W.heap.size ∧ k ∉ [])) A B → Jx s O B) := hJx
  have HY := Lib.hid hY
  have H0 := Lib.hid h0
  have u1 := b1.cell_at (o := 0) rfl
  have u2 := b2.cell_at (o := 0) rfl
  have v1 : ∀ o1, (W.alloc o1).cell? ⟨B1, 0, none⟩ = some (.func (.func g1) #[] lb1) := fun o1 => (b1.alloc o1).cell_at (o := 0) rfl
  have v2 : ∀ o1, (W.alloc o1).cell? ⟨B2, 0, none⟩ = some (.func (.func g2) #[] lb2) := fun o1 => (b2.alloc o1).cell_at (o := 0) rfl
  have i0 : ∀ w, (Instr.index 111 (.agg #[.func (.func g1) #[] lb1, .func (.func g2) #[] lb2]) (.int .i64 0)).run Try.prog w = .ok (.func (.func g1) #[] lb1) w := fun _ => by kernel_rfl
  have i1 : ∀ w, (Instr.index 111 (.agg #[.func (.func g1) #[] lb1, .func (.func g2) #[] lb2]) (.int .i64 1)).run Try.prog w = .ok (.func (.func g2) #[] lb2) w := fun _ => by kernel_rfl
  clear hY hJ hJx h0 hseq1 hseq2 hent1 hent2 hDs1 hDs2 keepW b1 b2 hB1 hB2 hD hO hno hl1 hl2 hs hW u1 u2
  refine calls8_marks Try.func69 rfl ?_
  simp only [Try.ntmps69, List.size_toArray, List.length_cons, List.length_nil, Nat.reduceAdd, Nat.reduceSub, Array.replicate_succ, Array.replicate_zero, List.push_toArray, List.append_toArray, List.nil_append, List.cons_append]
  go_upto_block 0 with (fail)
  obtain ⟨n3, F2⟩ := new1 W [.func (.yield l) #[] #[]] 63
  obtain ⟨wa, hwa⟩ : ∃ x : World, x = W.alloc (.cells #[.func (.yield l) #[] #[]] 63) := ⟨_, rfl⟩
  rw [← hwa]
  rw [← hwa] at n3 F2
  obtain ⟨E, hE⟩ : ∃ E, E = W.heap.size := ⟨_, rfl⟩
  rw [← hE] at n3 hlB HO0 HJ HJx ⊢
  have HSZ : Hid (wa.heap.size = E + 1) := Lib.hid (by rw [hwa, hE]; simp)
  have HEa := Lib.hid n3
  have HJa : Hid (J ([] ++ []) O0 wa) := Lib.hid (HJ.out _ _ _ _ H0.out (Keeps.of_fr F2 (fun _ _ _ => by simp)))
  have HKa1 : Hid (∀ b ∈ D1, wa.heap[b]? = w.heap[b]?) := Lib.hid (fun b hb => (F2.block b (by have := (HDs1.out b hb).1; have := hlB.out; omega) (by simp)).trans (HDs1.out b hb).2.2)
  have HKa2 : Hid (∀ b ∈ D2, wa.heap[b]? = w.heap[b]?) := Lib.hid (fun b hb => (F2.block b (by have := (HDs2.out b hb).1; have := hlB.out; omega) (by simp)).trans (HDs2.out b hb).2.2)
  have HOa : Hid (∀ b, O0 b → b < wa.heap.size) := Lib.hid (fun b hb => by have := HO0.out b hb; have := HSZ.out; omega)
  clear hwa hE n3 F2 v1 v2
  go_wp2_with fail
  refine wp_loop_rounds 3 ?_
  rw [rounds_succ]
  go_upto_block 2 with (fail)
  refine' wp_loop_block (w0 := wa) (O0 := fun b => b = l ∨ O0 b) (T := []) rfl HENT1.out
    (HS1.out wa _ (by have := hlB.out; have := HSZ.out; omega) HKa1.out (fun b hb => by rcases hb with rfl | hb; (have := HSZ.out; have := hlB.out; skip; omega); exact HOa.out b hb) (fun b hb h => by have h1 := HDs1.out b hb; have := hlB.out; rcases h with h | h; (have := h1.1; omega); exact h1.2.1 h))
    (fun b hb => by rcases hb with rfl | hb; (have := HSZ.out; have := hlB.out; skip; omega); exact HOa.out b hb) (by simp) (Below.refl _ _) (by intro x; rfl)
    (fun pre O V => (∃ Oo, J ([] ++ pre) Oo V ∧ (∀ b, O b ↔ b = l ∨ Oo b) ∧ (∀ b, b < wa.heap.size → Oo b → O0 b)) ∧ Blk V E [.func (.yield l) #[] #[]] 63 ∧ (∀ b ∈ D2, V.heap[b]? = wa.heap[b]?))
    (fun c pre O V => c = .ret ∧ (∃ Oo, Jx ([] ++ pre) Oo V ∧ (∀ b, Oo b → O b) ∧ (∀ b, b < wa.heap.size → Oo b → O0 b)) ∧ (∀ b ∈ D2, V.heap[b]? = wa.heap[b]?))
    (fun s O A V h hk => ?lowI1) (fun c s O A V h hk => ?lowX1)
    ⟨⟨O0, HJa.out, fun b => Iff.rfl, fun b _ h => h⟩, HEa.out, fun b _ => rfl⟩ (fun s W W' h _ => h) (fun s W W' h _ => h)
    (fun D' V => ∃ Oo, J ([] ++ xs) Oo V ∧ (∀ b, b < wa.heap.size → Oo b → O0 b) ∧ (∀ b, Oo b → b < V.heap.size) ∧ Blk V E [.func (.yield l) #[] #[]] 63 ∧ (∀ b ∈ D2, V.heap[b]? = wa.heap[b]?) ∧ (V.heap[D']? = some (.deferred (some [])) ∧ wa.heap.size ≤ D' ∧ ¬ Oo D')) _ ?assign ?body ?done ?stop ?tail
  case lowI1 =>
    obtain ⟨⟨Oo, h1, h2, h3⟩, h6, h7⟩ := h
    have hsz := HSZ.out
    skip
    exact ⟨⟨Oo, HJ.out _ _ _ _ h1 (hk.less (fun k _ hz => by rcases hz with hz | hz; exact .inl ((h2 k).2 (.inr hz)); exact .inr ⟨by omega, by simp⟩)), h2, h3⟩, h6.keeps hk (.inr ⟨by omega, by simp⟩), fun b hb => (hk.block b (lt_of_same (h7 b hb) (by have := (HDs2.out b hb).1; have := hlB.out; have := HSZ.out; omega)) (.inr ⟨(by have := (HDs2.out b hb).1; have := hlB.out; have := HSZ.out; omega), by simp⟩)).trans (h7 b hb)⟩
  case lowX1 =>
    obtain ⟨hc, ⟨Oo, h1, h2, h3⟩, h7⟩ := h
    have hsz := HSZ.out
    skip
    exact ⟨hc, ⟨Oo, HJx.out _ _ _ _ h1 (hk.less (fun k _ hz => by rcases hz with hz | hz; exact .inl (h2 k hz); exact .inr ⟨by omega, by simp⟩)), h2, h3⟩, fun b hb => (hk.block b (lt_of_same (h7 b hb) (by have := (HDs2.out b hb).1; have := hlB.out; have := HSZ.out; omega)) (.inr ⟨(by have := (HDs2.out b hb).1; have := hlB.out; have := HSZ.out; omega), by simp⟩)).trans (h7 b hb)⟩
  case assign =>
    intro l' x V K hK
    gi_wp2
    exact hK
  case done =>
    rintro D' zs O V ⟨hD', hnO, hOb⟩ rfl ⟨⟨Oo, h1, h2, h3⟩, h6, h7⟩ hK
    exact ⟨Oo, h1, h3, fun b hb => hOb b ((h2 b).2 (.inr hb)), h6, h7, hK, hD', fun h => hnO ((h2 D').2 (.inr h))⟩
  case stop =>
    rintro D' c pre O V ⟨hD', hnO⟩ hSp ⟨rfl, ⟨Oo, h1, h2, h3⟩, h7⟩ hK
    refine .inr ⟨rfl, ?_⟩
    have hsz := HSZ.out
    skip
    have hsp : pre <+: xs := hSp
    refine leavesInM_all (v := .tuple #[]) [D'] ?_ ?_ ?_ ?_
    · simp
    · intro D'' h
      simp at h
      rw [h]; exact hK
    · exact results_none rfl _ _ _
    · exact ⟨⟨_, rfl⟩, .inr ⟨_, Oo, (by obtain ⟨t, ht⟩ := hsp; exact ⟨t ++ ys, by rw [← ht]; simp⟩), abides_takeAll HJx.out [D'] h1 (by
        intro D'' h
        simp at h
        subst h; exact ⟨fun h => hnO (h2 _ h), by omega⟩)⟩⟩
  case body =>
    rintro l2 pre x O V ⟨⟨Oo, hj, hsh, hold⟩, hbE, hX⟩ hlt hsz hOV
    have hcE := hbE.cell_at (o := 0) rfl
    have hsz0 := HSZ.out
    skip
    obtain ⟨fn, tmps, assign, body, hy, hR⟩ := HY.out ([] ++ pre) x Oo V hj (by simp; omega)
    have nE : ¬ Oo E := fun h => by have := hold E (by omega) h; have := HO0.out _ this; omega
    have HXB : Hid (∀ b ∈ D2, b < V.heap.size ∧ b < wa.heap.size ∧ ¬ Oo b ∧ b ≠ l) := Lib.hid (fun b hb => ⟨(by have := (HDs2.out b hb).1; have := hlB.out; omega), (by have := (HDs2.out b hb).1; have := hlB.out; have := HSZ.out; omega), fun h => (HDs2.out b hb).2.1 (hold b (by have := (HDs2.out b hb).1; have := hlB.out; have := HSZ.out; omega) h), (by have := (HDs2.out b hb).1; have := hlB.out; omega)⟩)
    have FT : Hid (∀ V', J ([] ++ pre ++ [x]) (grow Oo V V') V' → Keeps (fun b => ¬ Oo b) V V' → Keeps (fun b => ¬ O b) V V' ∧
        (∃ Oo, J ([] ++ (pre ++ [x])) Oo V' ∧ (∀ b, grow O V V' b ↔ b = l ∨ Oo b) ∧ (∀ b, b < wa.heap.size → Oo b → O0 b)) ∧ Blk V' E [.func (.yield l) #[] #[]] 63 ∧ (∀ b ∈ D2, V'.heap[b]? = wa.heap[b]?)) := Lib.hid (by
      intro V' h1 h2
      rw [← List.append_assoc]
      refine ⟨h2.less (fun b _ h h3 => h ((hsh b).2 (.inr h3))), ⟨_, h1, fun b => ?_, fun b hb h => h.elim (hold b hb) (fun h => by omega)⟩, hbE.keeps h2 nE, fun b hb => (h2.block b (HXB.out b hb).1 (HXB.out b hb).2.2.1).trans (hX b hb)⟩
      unfold grow
      rw [hsh b]
      constructor
      · rintro ((h | h) | h) <;> simp [h]
      · rintro (h | (h | h)) <;> simp [h])
    have FX : Hid (∀ V', Jx ([] ++ pre ++ [x]) (grow Oo V V') V' → Keeps (fun b => ¬ Oo b ∧ b ≠ l) V V' → Keeps (fun b => ¬ O b) V V' ∧ (∃ Oo, Jx ([] ++ (pre ++ [x])) Oo V' ∧ (∀ b, Oo b → grow O V V' b) ∧ (∀ b, b < wa.heap.size → Oo b → O0 b)) ∧ (∀ b ∈ D2, V'.heap[b]? = wa.heap[b]?)) := Lib.hid (by
      intro V' h1 h2
      rw [← List.append_assoc]
      exact ⟨h2.less (fun b _ h => ⟨fun h3 => h ((hsh b).2 (.inr h3)), fun e => h ((hsh b).2 (.inl e))⟩), ⟨_, h1, fun b h => h.elim (fun h => .inl ((hsh b).2 (.inr h))) .inr, fun b hb h => h.elim (hold b hb) (fun h => by omega)⟩, fun b hb => (h2.block b (HXB.out b hb).1 ⟨(HXB.out b hb).2.2.1, (HXB.out b hb).2.2.2⟩).trans (hX b hb)⟩)
    have HRd := Lib.hid (hR.mono (R' := fun e W' => ∃ bb : Bool, e = .returned (.bool bb) ∧ ((bb = true ∧ J ([] ++ pre ++ [x]) (grow Oo V W') W' ∧ Keeps (fun k => ¬ Oo k) V W') ∨ (bb = false ∧ Jx ([] ++ pre ++ [x]) (grow Oo V W') W' ∧ Keeps (fun k => ¬ Oo k ∧ k ≠ l) V W')))
      (fun e W' h => by
        rcases h with ⟨rfl, h1, h2⟩ | ⟨rfl, h1, h2⟩
        · exact ⟨true, rfl, .inl ⟨rfl, h1, h2⟩⟩
        · exact ⟨false, rfl, .inr ⟨rfl, h1, h2⟩⟩))
    clear hR hj hsh hold hbE hX hlt hOV nE
    gi_wp2
    refine (roundIn_any l2 HRd.out).mono ?_
    rintro e V' ⟨bb, rfl, hh⟩
    rcases hh with ⟨rfl, h1, h2⟩ | ⟨rfl, h1, h2⟩
    · have HFT := Lib.hid (FT.out V' h1 h2)
      clear h1 h2 hy hcE
      gi_wp2
      exact HFT.out
    · have HFX := Lib.hid (FX.out V' h1 h2)
      clear h1 h2 hy hcE
      gi_wp2
      exact ⟨HFX.out.1, rfl, HFX.out.2⟩
  case tail =>
  rintro M1 wp ⟨Op, hj, hold, hOb, hbE, hX, hM⟩
  have HJp : Hid (J (xs ++ []) Op wp) := Lib.hid (by simpa using hj)
  have HOp : Hid (∀ b, b < wa.heap.size → Op b → O0 b) := hold
  have HOBp : Hid (∀ b, Op b → b < wp.heap.size) := hOb
  have HEp := Lib.hid hbE
  have HX1 : Hid (∀ b ∈ D2, wp.heap[b]? = w.heap[b]?) := Lib.hid (fun b hb => by rw [hX b hb]; exact HKa2.out b hb)
  have HM1 : Hid (wp.heap[M1]? = some (.deferred (some [])) ∧ wa.heap.size ≤ M1 ∧ ¬ Op M1) := hM
  have HZ1 : Hid (wa.heap.size ≤ M1 ∧ M1 < wp.heap.size) := ⟨hM.2.1, (Array.getElem?_eq_some_iff.1 hM.1).1⟩
  clear hj hold hOb hbE hX hM
  go_wp2_with fail
  rw [rounds_succ]
  go_upto_block 2 with (fail)
  refine' wp_loop_block (w0 := wp) (O0 := fun b => b = l ∨ Op b) (T := []) rfl HENT2.out
    (HS2.out wp _ (by have := hlB.out; have := HSZ.out; have := HZ1.out; omega) HX1.out (fun b hb => by rcases hb with rfl | hb; (have := HSZ.out; have := hlB.out; have := HZ1.out; omega); exact HOBp.out b hb) (fun b hb h => by have h1 := HDs2.out b hb; have := hlB.out; rcases h with h | h; (have := h1.1; omega); exact h1.2.1 (HOp.out b (by have := h1.1; have := HSZ.out; omega) h)))
    (fun b hb => by rcases hb with rfl | hb; (have := HSZ.out; have := hlB.out; have := HZ1.out; omega); exact HOBp.out b hb) (by simp) (Below.refl _ _) (by intro x; rfl)
    (fun pre O V => (∃ Oo, J (xs ++ pre) Oo V ∧ (∀ b, O b ↔ b = l ∨ Oo b) ∧ (∀ b, b < wp.heap.size → Oo b → Op b)) ∧ Blk V E [.func (.yield l) #[] #[]] 63 ∧ (∀ b ∈ [M1], V.heap[b]? = wp.heap[b]?))
    (fun c pre O V => c = .ret ∧ (∃ Oo, Jx (xs ++ pre) Oo V ∧ (∀ b, Oo b → O b) ∧ (∀ b, b < wp.heap.size → Oo b → Op b)) ∧ (∀ b ∈ [M1], V.heap[b]? = wp.heap[b]?))
    (fun s O A V h hk => ?lowI2) (fun c s O A V h hk => ?lowX2)
    ⟨⟨Op, HJp.out, fun b => Iff.rfl, fun b _ h => h⟩, HEp.out, fun b _ => rfl⟩ (fun s W W' h _ => h) (fun s W W' h _ => h)
    (fun D' V => ∃ Oo, J (xs ++ ys) Oo V ∧ (∀ b, b < wp.heap.size → Oo b → Op b) ∧ (∀ b, Oo b → b < V.heap.size) ∧ Blk V E [.func (.yield l) #[] #[]] 63 ∧ (∀ b ∈ [M1], V.heap[b]? = wp.heap[b]?) ∧ (V.heap[D']? = some (.deferred (some [])) ∧ wp.heap.size ≤ D' ∧ ¬ Oo D')) _ ?assign ?body ?done ?stop ?tail
  case lowI2 =>
    obtain ⟨⟨Oo, h1, h2, h3⟩, h6, h7⟩ := h
    have hsz := HSZ.out
    have := HZ1.out
    exact ⟨⟨Oo, HJ.out _ _ _ _ h1 (hk.less (fun k _ hz => by rcases hz with hz | hz; exact .inl ((h2 k).2 (.inr hz)); exact .inr ⟨by omega, by simp⟩)), h2, h3⟩, h6.keeps hk (.inr ⟨by omega, by simp⟩), fun b hb => (hk.block b (lt_of_same (h7 b hb) (by have := HZ1.out; simp at hb; omega)) (.inr ⟨(by have := HZ1.out; simp at hb; omega), by simp⟩)).trans (h7 b hb)⟩
  case lowX2 =>
    obtain ⟨hc, ⟨Oo, h1, h2, h3⟩, h7⟩ := h
    have hsz := HSZ.out
    have := HZ1.out
    exact ⟨hc, ⟨Oo, HJx.out _ _ _ _ h1 (hk.less (fun k _ hz => by rcases hz with hz | hz; exact .inl (h2 k hz); exact .inr ⟨by omega, by simp⟩)), h2, h3⟩, fun b hb => (hk.block b (lt_of_same (h7 b hb) (by have := HZ1.out; simp at hb; omega)) (.inr ⟨(by have := HZ1.out; simp at hb; omega), by simp⟩)).trans (h7 b hb)⟩
  case assign =>
    intro l' x V K hK
    gi_wp2
    exact hK
  case done =>
    rintro D' zs O V ⟨hD', hnO, hOb⟩ rfl ⟨⟨Oo, h1, h2, h3⟩, h6, h7⟩ hK
    exact ⟨Oo, h1, h3, fun b hb => hOb b ((h2 b).2 (.inr hb)), h6, h7, hK, hD', fun h => hnO ((h2 D').2 (.inr h))⟩
  case stop =>
    rintro D' c pre O V ⟨hD', hnO⟩ hSp ⟨rfl, ⟨Oo, h1, h2, h3⟩, h7⟩ hK
    refine .inr ⟨rfl, ?_⟩
    have hsz := HSZ.out
    have := HZ1.out
    have hsp : pre <+: ys := hSp
    refine leavesInM_all (v := .tuple #[]) [D', M1] ?_ ?_ ?_ ?_
    · have := HZ1.out; simp; omega
    · intro D'' h
      simp at h
      rcases h with rfl | rfl; exact hK; exact (h7 _ (by simp)).trans HM1.out.1
    · exact results_none rfl _ _ _
    · exact ⟨⟨_, rfl⟩, .inr ⟨_, Oo, (by obtain ⟨t, ht⟩ := hsp; exact ⟨t, by rw [← ht]; simp⟩), abides_takeAll HJx.out [D', M1] h1 (by
        intro D'' h
        simp at h
        have := HZ1.out
        rcases h with rfl | rfl
        · exact ⟨fun h => hnO (h2 _ h), by omega⟩
        · exact ⟨fun h => HM1.out.2.2 (h3 _ (by omega) h), by omega⟩)⟩⟩
  case body =>
    rintro l2 pre x O V ⟨⟨Oo, hj, hsh, hold⟩, hbE, hX⟩ hlt hsz hOV
    have hcE := hbE.cell_at (o := 0) rfl
    have hsz0 := HSZ.out
    have := HZ1.out
    obtain ⟨fn, tmps, assign, body, hy, hR⟩ := HY.out (xs ++ pre) x Oo V hj (by simp; omega)
    have nE : ¬ Oo E := fun h => by have := hold E (by omega) h; have := HO0.out _ (HOp.out E (by omega) this); omega
    have HXB : Hid (∀ b ∈ [M1], b < V.heap.size ∧ b < wp.heap.size ∧ ¬ Oo b ∧ b ≠ l) := Lib.hid (fun b hb => ⟨(by have := HZ1.out; simp at hb; omega), (by have := HZ1.out; simp at hb; omega), fun h => (show ¬ Op b by simp at hb; rw [hb]; exact HM1.out.2.2) (hold b (by have := HZ1.out; simp at hb; omega) h), (by have := HZ1.out; have := hlB.out; simp at hb; omega)⟩)
    have FT : Hid (∀ V', J (xs ++ pre ++ [x]) (grow Oo V V') V' → Keeps (fun b => ¬ Oo b) V V' → Keeps (fun b => ¬ O b) V V' ∧
        (∃ Oo, J (xs ++ (pre ++ [x])) Oo V' ∧ (∀ b, grow O V V' b ↔ b = l ∨ Oo b) ∧ (∀ b, b < wp.heap.size → Oo b → Op b)) ∧ Blk V' E [.func (.yield l) #[] #[]] 63 ∧ (∀ b ∈ [M1], V'.heap[b]? = wp.heap[b]?)) := Lib.hid (by
      intro V' h1 h2
      rw [← List.append_assoc]
      refine ⟨h2.less (fun b _ h h3 => h ((hsh b).2 (.inr h3))), ⟨_, h1, fun b => ?_, fun b hb h => h.elim (hold b hb) (fun h => by omega)⟩, hbE.keeps h2 nE, fun b hb => (h2.block b (HXB.out b hb).1 (HXB.out b hb).2.2.1).trans (hX b hb)⟩
      unfold grow
      rw [hsh b]
      constructor
      · rintro ((h | h) | h) <;> simp [h]
      · rintro (h | (h | h)) <;> simp [h])
    have FX : Hid (∀ V', Jx (xs ++ pre ++ [x]) (grow Oo V V') V' → Keeps (fun b => ¬ Oo b ∧ b ≠ l) V V' → Keeps (fun b => ¬ O b) V V' ∧ (∃ Oo, Jx (xs ++ (pre ++ [x])) Oo V' ∧ (∀ b, Oo b → grow O V V' b) ∧ (∀ b, b < wp.heap.size → Oo b → Op b)) ∧ (∀ b ∈ [M1], V'.heap[b]? = wp.heap[b]?)) := Lib.hid (by
      intro V' h1 h2
      rw [← List.append_assoc]
      exact ⟨h2.less (fun b _ h => ⟨fun h3 => h ((hsh b).2 (.inr h3)), fun e => h ((hsh b).2 (.inl e))⟩), ⟨_, h1, fun b h => h.elim (fun h => .inl ((hsh b).2 (.inr h))) .inr, fun b hb h => h.elim (hold b hb) (fun h => by omega)⟩, fun b hb => (h2.block b (HXB.out b hb).1 ⟨(HXB.out b hb).2.2.1, (HXB.out b hb).2.2.2⟩).trans (hX b hb)⟩)
    have HRd := Lib.hid (hR.mono (R' := fun e W' => ∃ bb : Bool, e = .returned (.bool bb) ∧ ((bb = true ∧ J (xs ++ pre ++ [x]) (grow Oo V W') W' ∧ Keeps (fun k => ¬ Oo k) V W') ∨ (bb = false ∧ Jx (xs ++ pre ++ [x]) (grow Oo V W') W' ∧ Keeps (fun k => ¬ Oo k ∧ k ≠ l) V W')))
      (fun e W' h => by
        rcases h with ⟨rfl, h1, h2⟩ | ⟨rfl, h1, h2⟩
        · exact ⟨true, rfl, .inl ⟨rfl, h1, h2⟩⟩
        · exact ⟨false, rfl, .inr ⟨rfl, h1, h2⟩⟩))
    clear hR hj hsh hold hbE hX hlt hOV nE
    gi_wp2
    refine (roundIn_any l2 HRd.out).mono ?_
    rintro e V' ⟨bb, rfl, hh⟩
    rcases hh with ⟨rfl, h1, h2⟩ | ⟨rfl, h1, h2⟩
    · have HFT := Lib.hid (FT.out V' h1 h2)
      clear h1 h2 hy hcE
      gi_wp2
      exact HFT.out
    · have HFX := Lib.hid (FX.out V' h1 h2)
      clear h1 h2 hy hcE
      gi_wp2
      exact ⟨HFX.out.1, rfl, HFX.out.2⟩
  case tail =>
  rintro M2 wq ⟨Oq, hj, hold, hOb, hbE, hX, hM⟩
  have HJq : Hid (J (xs ++ ys) Oq wq) := Lib.hid (by simpa using hj)
  have HOq : Hid (∀ b, b < wp.heap.size → Oq b → Op b) := hold
  have HOBq : Hid (∀ b, Oq b → b < wq.heap.size) := hOb
  have HEq := Lib.hid hbE
  have HX2 : Hid (∀ b ∈ [M1], wq.heap[b]? = some (.deferred (some []))) := Lib.hid (fun b hb => by rw [hX b hb]; simp at hb; rw [hb]; exact HM1.out.1)
  have HM2 : Hid (wq.heap[M2]? = some (.deferred (some [])) ∧ wp.heap.size ≤ M2 ∧ ¬ Oq M2) := hM
  have HZ2 : Hid (wp.heap.size ≤ M2 ∧ M2 < wq.heap.size) := ⟨hM.2.1, (Array.getElem?_eq_some_iff.1 hM.1).1⟩
  clear hj hold hOb hbE hX hM
  go_wp2_with fail
  rw [rounds_succ]
  go_wp2_with fail
  refine leavesInM_all (v := .tuple #[]) [M2, M1] ?_ ?_ ?_ ?_
  · have h1 := HM2.out.2.1; have h2 := HZ1.out; simp; omega
  · intro D'' h
    simp at h
    rcases h with rfl | rfl
    · exact HM2.out.1
    · exact HX2.out _ (by simp)
  · exact results_none rfl _ _ _
  · have hjt : J (xs ++ ys) Oq (takeAll [M2, M1] wq) := abides_takeAll HJ.out [M2, M1] HJq.out (by
      intro D'' h
      simp at h
      have h1 := HM2.out.2.1
      have h2 := HM1.out.2.1
      have h3 := HSZ.out
      have h4 := HZ1.out
      rcases h with rfl | rfl
      · exact ⟨HM2.out.2.2, by omega⟩
      · exact ⟨fun h => HM1.out.2.2 (HOq.out _ (by omega) h), by omega⟩)
    first | exact ⟨⟨_, rfl⟩, .inl ⟨_, Oq, rfl, hjt⟩⟩ | exact ⟨⟨_, rfl⟩, .inl ⟨Oq, hjt⟩⟩
end Go.Proofs.Ytcnoaflojojfkab.Seqs
