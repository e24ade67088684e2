/- The first numbers of what comes: an iterator over an iterator. No condition. -/
import Derived.Test.YtcnoaflojojfkabSeqsNil
namespace Go.Proofs.Ytcnoaflojojfkab.Seqs
open Go.RowKit Go.Shelf
set_option linter.unusedVariables false
set_option linter.unusedSimpArgs false
set_option maxRecDepth 100000
attribute [local go_sem] Oper.semAt_some eq_fn eq_nil

theorem roundIn_any {m m' : Nat} {P : Program} {l f : Nat} {tmps : Array Value} {assign body : Code} {w : World} {R : Ending → World → Prop} (l2 : Nat) (h : RoundIn Fence.wide m P l f tmps assign body w R) :
    RoundIn (Fence.wide.inRound l2) m' P l f tmps assign body w R := ⟨trivial, fun c cs _ => h.2 c cs (room_wide _)⟩
theorem grow_not {O : Nat → Prop} {A B : World} {b : Nat} (h : ¬ O b) (hb : b < A.heap.size) : ¬ grow O A B b := fun hg => hg.elim h (fun h2 => by omega)
theorem grow_size {O : Nat → Prop} {A A' B : World} (h : A.heap.size = A'.heap.size) : grow O A B = grow O A' B := by unfold grow; rw [h]

/-- the numbers of the rounds' blocks: the outer rounds' own, the box E, the outer loop's mark -/
structure Shares (E l : Nat) (O Oo : Nat → Prop) : Prop where
  iff : ∀ b, O b ↔ b = E ∨ b = l ∨ Oo b
theorem Shares.grow {E l : Nat} {O Oo : Nat → Prop} (h : Shares E l O Oo) (A A' B : World) (hs : A.heap.size = A'.heap.size) : Shares E l (Go.Proofs.Ytcnoaflojojfkab.grow O A B) (Go.Proofs.Ytcnoaflojojfkab.grow Oo A' B) :=
  ⟨fun b => by unfold Go.Proofs.Ytcnoaflojojfkab.grow; rw [h.iff b, hs]; constructor
               · rintro ((h | h | h) | h) <;> simp [h]
               · rintro (h | h | (h | h)) <;> simp [h]⟩

set_option maxHeartbeats 4000000 in
theorem take_stops (B1 B2 : Nat) (D : List Nat) (f : Value) (xs : List Int) (m : Nat) (w w' : World) (O0 : Nat → Prop) (hB1 : Blk w B1 [f] 36) (hB2 : Blk w B2 [.int .i64 m] 3) (hi : It w D f xs) (hx : xs.length ≤ 100000) (hm : 0 < m)
    (hs : w.heap.size ≤ w'.heap.size) (hD : ∀ b ∈ B1 :: B2 :: D, w'.heap[b]? = w.heap[b]?) (hO : ∀ b, O0 b → b < w'.heap.size) (hno : ∀ b ∈ B1 :: B2 :: D, ¬ O0 b) :
    SeqT Try.prog 66 #[.pointer (some ⟨B1, 0, none⟩), .pointer (some ⟨B2, 0, none⟩)] (fun x : Int => #[.int .i64 x]) [] O0 (fun ys _ => ys = xs.take m) (fun pre _ => pre <+: xs.take m) (xs.take m).length w' := by
  intro l J Jx W hW hl1 hl2 hJ hJx hY h0
  have keepW : ∀ b, b ∈ B1 :: B2 :: D → b < w.heap.size → W.heap[b]? = w.heap[b]? := fun b hb hlt => (hW.block b (by omega)).trans (hD b hb)
  have hiD := hi
  obtain ⟨gf, lb, rfl, hent, hDs, hseq⟩ := hiD
  have hsW : w.heap.size ≤ W.heap.size := Nat.le_trans hs hW.size
  have b1 : Blk W B1 [.func (.func gf) #[] lb] 36 := hB1.of_eq (keepW B1 (by simp) hB1.lt)
  have b2 : Blk W B2 [.int .i64 m] 3 := hB2.of_eq (keepW B2 (by simp) hB2.lt)
  have dW : ∀ b ∈ D, W.heap[b]? = w.heap[b]? := fun b hb => keepW b (by simp [hb]) (hDs b hb)
  have hDl : ∀ b ∈ D, b < w.heap.size := hDs
  have HDs : Hid (∀ b ∈ D, b < w.heap.size ∧ b ≠ l ∧ ¬ O0 b) := Lib.hid (fun b hb => ⟨hDs b hb, by have := hDs b hb; omega, hno b (by simp [hb])⟩)
  have hlB : Hid (B1 < w.heap.size ∧ B2 < w.heap.size ∧ w'.heap.size ≤ l ∧ l < W.heap.size ∧ w.heap.size ≤ w'.heap.size ∧ ¬ O0 B1 ∧ ¬ O0 B2) := ⟨hB1.lt, hB2.lt, hl1, hl2, hs, hno _ (by simp), hno _ (by simp)⟩
  have HO0 : Hid (∀ b, O0 b → b < w'.heap.size ∧ b < W.heap.size) := Lib.hid (fun b hb => ⟨hO b hb, by have := hO b hb; have := hW.size; omega⟩)
  have HS := Lib.hid hseq
  have HENT : Hid (∀ args w, (callFunc gf args).run Try.prog w = .ok (.enter gf args) w) := hent
  have HDW : Hid (∀ b ∈ D, W.heap[b]? = w.heap[b]?) := dW
  have HJ : Hid (∀ s O A B, J s O A → Keeps (fun k => O k ∨ (k < W.heap.size ∧ k ∉ [])) A B → J s O B) := hJ
  have HJx : Hid (∀ s O A B, Jx s O A → Keeps (fun k => O k ∨ (k < W.heap.size ∧ k ∉ [])) A B → Jx s O B) := hJx
  have HY := Lib.hid hY
  have H0 := Lib.hid h0
  have HB1 := Lib.hid b1
  have HB2 := Lib.hid b2
  have hdm : decide ((m : Int) ≤ 0) = false := decide_eq_false (by omega)
  clear hY hJ hJx h0 hseq hent hDs keepW b1 b2 dW hB1 hB2 hi hD hO hno hl1 hl2 hs hW hDl
  refine calls8_marks Try.func66 rfl ?_
  simp only [Try.ntmps66, List.size_toArray, List.length_cons, List.length_nil, Nat.reduceAdd, Nat.reduceSub, Array.replicate_succ, Array.replicate_zero, List.push_toArray, List.append_toArray, List.nil_append, List.cons_append]
  go_upto_region 2 with (fail)
  obtain ⟨n3, n4, F2⟩ := new2 W [.func (.yield l) #[] #[]] 63 [.int .i64 0] 3
  obtain ⟨wa, hwa⟩ : ∃ x : World, x = (W.alloc (.cells #[.func (.yield l) #[] #[]] 63)).alloc (.cells #[.int .i64 0] 3) := ⟨_, rfl⟩
  rw [← hwa]
  rw [← hwa] at n3 n4 F2
  obtain ⟨E, hE⟩ : ∃ E, E = W.heap.size := ⟨_, rfl⟩
  rw [← hE] at n3 n4 hlB HO0 HJ HJx ⊢
  have HSZ : Hid (wa.heap.size = E + 1 + 1) := Lib.hid (by rw [hwa, hE]; simp)
  have HN3 := Lib.hid n3
  have HN4 := Lib.hid n4
  have HF2 := Lib.hid F2
  have HA1 := Lib.hid (HB1.out.fr F2 (by simp))
  have HA2 := Lib.hid (HB2.out.fr F2 (by simp))
  have q1 := HA1.out.cell_at (o := 0) rfl
  have q2 := HA2.out.cell_at (o := 0) rfl
  have HJa : Hid (J [] O0 wa) := Lib.hid (HJ.out _ _ _ _ H0.out (Keeps.of_fr F2 (fun _ _ _ => by simp)))
  have HDa : Hid (∀ b ∈ D, wa.heap[b]? = w.heap[b]?) := Lib.hid (fun b hb => (F2.block b (by have := (HDs.out b hb).1; have := hlB.out; omega) (by simp)).trans (HDW.out b hb))
  clear hwa hE n3 n4 F2
  go_upto_block 0 with (fail)
  refine' wp_loop_block (w0 := wa) (O0 := fun b => b = E + 1 ∨ b = l ∨ O0 b) (T := []) rfl HENT.out
    (HS.out wa _ (by have := hlB.out; have := HSZ.out; omega) HDa.out (fun b hb => by have := HSZ.out; have := hlB.out; rcases hb with rfl | rfl | hb <;> first | omega | (have := (HO0.out b hb).2; omega))
      (fun b hb h => by have h1 := HDs.out b hb; have := hlB.out; rcases h with h | h | h <;> first | omega | exact h1.2.1 h | exact h1.2.2 h))
    (fun b hb => by have := HSZ.out; have := hlB.out; rcases hb with rfl | rfl | hb <;> first | omega | (have := (HO0.out b hb).2; omega)) (by simp) (Below.refl _ _) (by intro x; rfl)
    (fun pre O V => (∃ Oo, J pre Oo V ∧ Shares (E + 1) l O Oo ∧ ¬ Oo E ∧ ¬ Oo (E + 1) ∧ ¬ Oo B2) ∧ Blk V E [.func (.yield l) #[] #[]] 63 ∧ Blk V (E + 1) [.int .i64 pre.length] 3 ∧ Blk V B2 [.int .i64 m] 3 ∧ pre.length < m)
    (fun c pre O V => c = .ret ∧ ((∃ Oo, Jx pre Oo V ∧ (∀ b, Oo b → O b) ∧ pre.length ≤ m) ∨ (∃ Oo, J pre Oo V ∧ (∀ b, Oo b → O b) ∧ pre.length = m)))
    (fun s O A V h hk => ?lowI) (fun c s O A V h hk => ?lowX)
    ⟨⟨O0, HJa.out, ⟨fun b => Iff.rfl⟩, fun h => by have := (HO0.out _ h).2; omega, fun h => by have := (HO0.out _ h).2; omega, hlB.out.2.2.2.2.2.2⟩, HN3.out, HN4.out, HA2.out, hm⟩ (fun s W W' h _ => h) (fun s W W' h _ => h)
    (fun D' V => ∃ Oo, J xs Oo V ∧ ¬ Oo D' ∧ E ≤ D' ∧ V.heap[D']? = some (.deferred (some [])) ∧ xs.length < m) _ ?assign ?body ?done ?stop ?tail
  case lowI =>
    obtain ⟨⟨Oo, h1, h2, h3, h4, h5⟩, h6, h7, h8, h9⟩ := h
    have hsz := HSZ.out
    have hb := hlB.out
    exact ⟨⟨Oo, HJ.out _ _ _ _ h1 (hk.less (fun k _ hz => by rcases hz with hz | hz; exact .inl ((h2.iff k).2 (.inr (.inr hz))); exact .inr ⟨by omega, by simp⟩)), h2, h3, h4, h5⟩, h6.keeps hk (.inr ⟨by omega, by simp⟩), h7.keeps hk (.inr ⟨by omega, by simp⟩), h8.keeps hk (.inr ⟨by omega, by simp⟩), h9⟩
  case lowX =>
    have hsz := HSZ.out
    rcases h with ⟨hc, ⟨Oo, h1, h2, h3⟩ | ⟨Oo, h1, h2, h3⟩⟩
    · exact ⟨hc, .inl ⟨Oo, HJx.out _ _ _ _ h1 (hk.less (fun k _ hz => by rcases hz with hz | hz; exact .inl (h2 k hz); exact .inr ⟨by omega, by simp⟩)), h2, h3⟩⟩
    · exact ⟨hc, .inr ⟨Oo, HJ.out _ _ _ _ h1 (hk.less (fun k _ hz => by rcases hz with hz | hz; exact .inl (h2 k hz); exact .inr ⟨by omega, by simp⟩)), h2, h3⟩⟩
  case assign =>
    intro l' x V K hK
    gi_wp2
    exact hK
  case done =>
    rintro D' ys O V ⟨hD', hnO, _⟩ rfl ⟨⟨Oo, h1, h2, h3, h4, h5⟩, h6, h7, h8, h9⟩ hK
    exact ⟨Oo, h1, fun h => hnO ((h2.iff D').2 (.inr (.inr h))), by have := HSZ.out; omega, hK, h9⟩
  case tail =>
    rintro D' V ⟨Oo, hj, hnO, hED, hK, hlx⟩
    have HJf := Lib.hid (HJ.out _ _ _ _ hj (Keeps.put V (l := D') (.deferred none) (fun h => h.elim hnO (fun h2 => by omega))))
    have HK := Lib.hid hK
    clear hj hK hnO
    go_wp2
    refine leavesInM_all (v := .tuple #[]) [D'] ?_ ?_ ?_ ?_
    · simp
    · intro D'' h
      simp at h
      rw [h]; exact HK.out
    · exact results_none rfl _ _ _
    · have hjt : J (xs.take m) Oo (V.putObj D' (.deferred none)) := by rw [List.take_of_length_le (by omega)]; exact HJf.out
      first | exact ⟨⟨_, rfl⟩, .inl ⟨_, Oo, rfl, hjt⟩⟩ | exact ⟨⟨_, rfl⟩, .inl ⟨Oo, hjt⟩⟩
  case stop =>
    rintro D' c pre O V ⟨hD', hnO⟩ hSp ⟨rfl, h⟩ hK
    refine .inr ⟨rfl, ?_⟩
    have hsz := HSZ.out
    have hsp : pre <+: xs := hSp
    have hpt : pre.length ≤ m → pre <+: xs.take m := fun hl => by
      rw [List.prefix_iff_eq_take] at hsp ⊢
      rw [List.take_take, Nat.min_eq_left hl]; exact hsp
    refine leavesInM_all (v := .tuple #[]) [D'] ?_ ?_ ?_ ?_
    · simp
    · intro D'' h
      simp at h
      rw [h]; exact hK
    · exact results_none rfl _ _ _
    · rcases h with ⟨Oo, h1, h2, h3⟩ | ⟨Oo, h1, h2, h3⟩
      · exact ⟨⟨_, rfl⟩, .inr ⟨pre, Oo, hpt h3, HJx.out _ _ _ _ h1 (Keeps.put V (l := D') (.deferred none) (fun h => h.elim (fun h => hnO (h2 _ h)) (fun h2 => by omega)))⟩⟩
      · exact ⟨⟨_, rfl⟩, .inl ⟨pre, Oo, by have := List.prefix_iff_eq_take.1 hsp; rw [h3] at this; exact this, HJ.out _ _ _ _ h1 (Keeps.put V (l := D') (.deferred none) (fun h => h.elim (fun h => hnO (h2 _ h)) (fun h2 => by omega)))⟩⟩
  case body =>
    rintro l2 pre x O V ⟨⟨Oo, hj, hsh, hnE, hnE1, hnB2⟩, hbE, hbK, hb2, hlm⟩ hlt hsz hOV
    obtain ⟨k, hk⟩ : ∃ k, k = pre.length := ⟨_, rfl⟩
    rw [← hk] at hbK hlm hlt
    have hcK := hbK.cell_at (o := 0) rfl
    have hfK := hbK.thawed 0
    have hcE := hbE.cell_at (o := 0) rfl
    have hc2 := hb2.cell_at (o := 0) rfl
    have hkk : k ≤ 100000 := by omega
    obtain ⟨V3, hV3⟩ : ∃ V3, V3 = V.setCell ⟨E + 1, 0, none⟩ (.int .i64 ((k : Int) + 1)) := ⟨_, rfl⟩
    have kV3 : Keeps (fun b => b ≠ E + 1) V V3 := by rw [hV3]; exact keeps_set _ _ (by simp)
    have hj3 : J pre Oo V3 := HJ.out _ _ _ _ hj (kV3.less (fun b _ hz e => by subst e; exact hz.elim hnE1 (fun h => by omega)))
    have bK3 : Blk V3 (E + 1) [.int .i64 (k + 1 : Nat)] 3 := by rw [hV3]; exact hbK.set 0 _
    have b23 : Blk V3 B2 [.int .i64 m] 3 := hb2.keeps kV3 (by have := hlB.out; omega)
    have hz3 : V3.heap.size = V.heap.size := by rw [hV3]; simp [World.setCell]
    obtain ⟨fn, tmps, assign, body, hy, hR⟩ := HY.out pre x Oo V3 hj3 (by rw [List.length_take, ← hk]; omega)
    have FT : Hid (∀ V', J (pre ++ [x]) (grow Oo V3 V') V' → Keeps (fun b => ¬ Oo b) V3 V' → (V'.cell? ⟨E + 1, 0, none⟩ = some (.int .i64 (k + 1 : Nat)) ∧ V'.cell? ⟨B2, 0, none⟩ = some (.int .i64 m)) ∧ Keeps (fun b => ¬ O b) V V' ∧
        (k + 1 < m → (∃ Oo, J (pre ++ [x]) Oo V' ∧ Shares (E + 1) l (grow O V V') Oo ∧ ¬ Oo E ∧ ¬ Oo (E + 1) ∧ ¬ Oo B2) ∧ Blk V' E [.func (.yield l) #[] #[]] 63 ∧ Blk V' (E + 1) [.int .i64 (pre ++ [x]).length] 3 ∧ Blk V' B2 [.int .i64 m] 3 ∧ (pre ++ [x]).length < m) ∧
        (m ≤ k + 1 → ∃ Oo, J (pre ++ [x]) Oo V' ∧ (∀ b, Oo b → grow O V V' b) ∧ (pre ++ [x]).length = m)) := Lib.hid (by
      intro V' h1 h2
      have hl := hlB.out
      have hs := HSZ.out
      have bK' := bK3.keeps h2 hnE1
      have b2' := b23.keeps h2 hnB2
      have bE' := (hbE.keeps kV3 (by omega)).keeps h2 hnE
      have ln : (pre ++ [x]).length = k + 1 := by rw [List.length_append, List.length_singleton, ← hk]
      have sh := hsh.grow V V3 V' hz3.symm
      refine ⟨⟨bK'.cell_at rfl, b2'.cell_at rfl⟩, (kV3.less (fun b _ h e => h ((hsh.iff b).2 (.inl e)))).trans h2 (fun b _ h h3 => h ((hsh.iff b).2 (.inr (.inr h3)))), fun hlt => ⟨⟨_, h1, sh, grow_not hnE (by omega), grow_not hnE1 (by omega), grow_not hnB2 (by omega)⟩, bE', by rw [ln]; exact bK', b2', by omega⟩, fun hge => ⟨_, h1, fun b hb => (sh.iff b).2 (.inr (.inr hb)), by omega⟩⟩)
    have FX : Hid (∀ V', Jx (pre ++ [x]) (grow Oo V3 V') V' → Keeps (fun b => ¬ Oo b ∧ b ≠ l) V3 V' → Keeps (fun b => ¬ O b) V V' ∧ ∃ Oo, Jx (pre ++ [x]) Oo V' ∧ (∀ b, Oo b → grow O V V' b) ∧ (pre ++ [x]).length ≤ m) := Lib.hid (by
      intro V' h1 h2
      have sh := hsh.grow V V3 V' hz3.symm
      exact ⟨(kV3.less (fun b _ h e => h ((hsh.iff b).2 (.inl e)))).trans h2 (fun b _ h => ⟨fun h3 => h ((hsh.iff b).2 (.inr (.inr h3))), fun e => h ((hsh.iff b).2 (.inr (.inl e)))⟩), _, h1, fun b hb => (sh.iff b).2 (.inr (.inr hb)), by rw [List.length_append, List.length_singleton, ← hk]; omega⟩)
    have HRd := Lib.hid (hR.mono (R' := fun e W' => ∃ bb : Bool, e = .returned (.bool bb) ∧ ((bb = true ∧ J (pre ++ [x]) (grow Oo V3 W') W' ∧ Keeps (fun k => ¬ Oo k) V3 W') ∨ (bb = false ∧ Jx (pre ++ [x]) (grow Oo V3 W') W' ∧ Keeps (fun k => ¬ Oo k ∧ k ≠ l) V3 W')))
      (fun e W' h => by
        rcases h with ⟨rfl, h1, h2⟩ | ⟨rfl, h1, h2⟩
        · exact ⟨true, rfl, .inl ⟨rfl, h1, h2⟩⟩
        · exact ⟨false, rfl, .inr ⟨rfl, h1, h2⟩⟩))
    have hcE3 : V3.cell? ⟨E, 0, none⟩ = some (.func (.yield l) #[] #[]) := (hbE.keeps kV3 (by omega)).cell_at rfl
    have HV3 := Lib.hid hV3
    have HKP := Lib.hid hk
    rw [hV3] at hy hcE3
    clear hR hV3 kV3 hj hj3 hsh hbE hbK hb2 bK3 b23 hz3 hlt hOV hk hnE hnE1 hnB2
    have hne1 : ¬ E = E + 1 := by omega
    gi_wp2
    rw [← HV3.out]
    refine (roundIn_any l2 HRd.out).mono ?_
    rintro e V' ⟨bb, rfl, hh⟩
    rcases hh with ⟨rfl, h1, h2⟩ | ⟨rfl, h1, h2⟩
    · obtain ⟨⟨c1, c2⟩, hkeep, hgo, hend⟩ := FT.out V' h1 h2
      have HKE := Lib.hid hkeep
      have HGO := Lib.hid hgo
      have HEND := Lib.hid hend
      clear h1 h2 hkeep hgo hend hy hcE hcE3 hc2 hcK hfK
      by_cases hge : m ≤ k + 1
      · have hd1 : decide (m ≤ k + 1) = true := decide_eq_true hge
        have hd2 : decide ((m : Int) ≤ (k : Int) + 1) = true := decide_eq_true (by omega)
        have HGE := Lib.hid hge
        clear hge
        gi_wp2
        exact ⟨HKE.out, rfl, .inr (HEND.out HGE.out)⟩
      · have hd1 : decide (m ≤ k + 1) = false := decide_eq_false hge
        have hd2 : decide ((m : Int) ≤ (k : Int) + 1) = false := decide_eq_false (by omega)
        have HGE : Hid (k + 1 < m) := Lib.hid (by omega)
        clear hge
        gi_wp2
        exact ⟨HKE.out, HGO.out HGE.out⟩
    · obtain ⟨hkeep, hjx⟩ := FX.out V' h1 h2
      have HKE := Lib.hid hkeep
      have HJX := Lib.hid hjx
      clear h1 h2 hkeep hjx hy hcE hcE3 hc2 hcK hfK
      gi_wp2
      exact ⟨HKE.out, rfl, .inl HJX.out⟩
end Go.Proofs.Ytcnoaflojojfkab.Seqs
