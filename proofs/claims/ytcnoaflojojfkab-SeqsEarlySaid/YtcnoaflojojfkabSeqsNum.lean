/- Numbers with their places: an iterator over an iterator. No condition. -/
import Derived.Test.YtcnoaflojojfkabSeqsMake
namespace Go.Proofs.Ytcnoaflojojfkab.Seqs
open Go.RowKit Go.Shelf
set_option linter.unusedVariables false
set_option linter.unusedSimpArgs false
set_option maxRecDepth 100000
attribute [local go_sem] Oper.semAt_some eq_fn eq_nil

/-- things with their places, from 0 on -/
def nums (xs : List Int) : List (Int × Int) := xs.zipIdx.map fun p => ((p.2 : Int), p.1)
theorem nums_len (xs : List Int) : (nums xs).length = xs.length := by simp [nums]
theorem nums_snoc (pre : List Int) (x : Int) : nums (pre ++ [x]) = nums pre ++ [((pre.length : Int), x)] := by simp [nums, List.zipIdx_append]
theorem nums_prefix {pre xs : List Int} (h : pre <+: xs) : nums pre <+: nums xs := by
  obtain ⟨t, rfl⟩ := h
  exact ⟨(t.zipIdx pre.length).map fun p => ((p.2 : Int), p.1), by simp [nums, List.zipIdx_append]⟩

set_option maxHeartbeats 4000000 in
theorem num_stops (B1 : Nat) (D : List Nat) (f : Value) (xs : List Int) (w w' : World) (O0 : Nat → Prop) (hB1 : Blk w B1 [f] 36) (hi : It w D f xs) (hx : xs.length ≤ 100000)
    (hs : w.heap.size ≤ w'.heap.size) (hD : ∀ b ∈ B1 :: D, w'.heap[b]? = w.heap[b]?) (hO : ∀ b, O0 b → b < w'.heap.size) (hno : ∀ b ∈ B1 :: D, ¬ O0 b) :
    SeqT Try.prog 70 #[.pointer (some ⟨B1, 0, none⟩)] (fun p : Int × Int => #[.int .i64 p.1, .int .i64 p.2]) [] O0 (fun ys _ => ys = nums xs) (fun pre _ => pre <+: nums xs) xs.length w' := by
  intro l J Jx W hW hl1 hl2 hJ hJx hY h0
  have keepW : ∀ b, b ∈ B1 :: D → b < w.heap.size → W.heap[b]? = w.heap[b]? := fun b hb hlt => (hW.block b (by omega)).trans (hD b hb)
  have hiD := hi
  obtain ⟨gf, lb, rfl, hent, hDs, hseq⟩ := hiD
  have hsW : w.heap.size ≤ W.heap.size := Nat.le_trans hs hW.size
  have b1 : Blk W B1 [.func (.func gf) #[] lb] 36 := hB1.of_eq (keepW B1 (by simp) hB1.lt)
  have dW : ∀ b ∈ D, W.heap[b]? = w.heap[b]? := fun b hb => keepW b (by simp [hb]) (hDs b hb)
  have hDl : ∀ b ∈ D, b < w.heap.size := hDs
  have HDs : Hid (∀ b ∈ D, b < w.heap.size ∧ b ≠ l ∧ ¬ O0 b) := Lib.hid (fun b hb => ⟨hDs b hb, by have := hDs b hb; omega, hno b (by simp [hb])⟩)
  have hlB : Hid (B1 < w.heap.size ∧ w'.heap.size ≤ l ∧ l < W.heap.size ∧ w.heap.size ≤ w'.heap.size ∧ ¬ O0 B1) := ⟨hB1.lt, hl1, hl2, hs, hno _ (by simp)⟩
  have HO0 : Hid (∀ b, O0 b → b < w'.heap.size ∧ b < W.heap.size) := Lib.hid (fun b hb => ⟨hO b hb, by have := hO b hb; have := hW.size; omega⟩)
  have HS := Lib.hid hseq
  have HENT : Hid (∀ args w, (callFunc gf args).run Try.prog w = .ok (.enter gf args) w) := hent
  have HDW : Hid (∀ b ∈ D, W.heap[b]? = w.heap[b]?) := dW
  have HJ : Hid (∀ s O A B, J s O A → Keeps (fun k => O k ∨ (k < W.heap.size ∧ k ∉ [])) A B → J s O B) := hJ
  have HJx : Hid (∀ s O A B, Jx s O A → Keeps (fun k => O k ∨ (k < W.heap.size ∧ k ∉ [])) A B → Jx s O B) := hJx
  have HY := Lib.hid hY
  have H0 := Lib.hid h0
  have HB1 := Lib.hid b1
  clear hY hJ hJx h0 hseq hent hDs keepW b1 dW hB1 hi hD hO hno hl1 hl2 hs hW hDl
  refine calls8_marks Try.func70 rfl ?_
  simp only [Try.ntmps70, List.size_toArray, List.length_cons, List.length_nil, Nat.reduceAdd, Nat.reduceSub, Array.replicate_succ, Array.replicate_zero, List.push_toArray, List.append_toArray, List.nil_append, List.cons_append]
  go_upto_region 2 with (fail)
  obtain ⟨n3, n4, F2⟩ := new2 W [.func (.yield l) #[] #[]] 113 [.int .i64 0] 3
  obtain ⟨wa, hwa⟩ : ∃ x : World, x = (W.alloc (.cells #[.func (.yield l) #[] #[]] 113)).alloc (.cells #[.int .i64 0] 3) := ⟨_, rfl⟩
  rw [← hwa]
  rw [← hwa] at n3 n4 F2
  obtain ⟨E, hE⟩ : ∃ E, E = W.heap.size := ⟨_, rfl⟩
  rw [← hE] at n3 n4 hlB HO0 HJ HJx ⊢
  have HSZ : Hid (wa.heap.size = E + 1 + 1) := Lib.hid (by rw [hwa, hE]; simp)
  have HN3 := Lib.hid n3
  have HN4 := Lib.hid n4
  have HF2 := Lib.hid F2
  have HA1 := Lib.hid (HB1.out.fr F2 (by simp))
  have q1 := HA1.out.cell_at (o := 0) rfl
  have HJa : Hid (J (nums []) O0 wa) := Lib.hid (HJ.out _ _ _ _ H0.out (Keeps.of_fr F2 (fun _ _ _ => by simp)))
  have HDa : Hid (∀ b ∈ D, wa.heap[b]? = w.heap[b]?) := Lib.hid (fun b hb => (F2.block b (by have := (HDs.out b hb).1; have := hlB.out; omega) (by simp)).trans (HDW.out b hb))
  clear hwa hE n3 n4 F2
  go_upto_block 0 with (fail)
  refine' wp_loop_block (w0 := wa) (O0 := fun b => b = E + 1 ∨ b = l ∨ O0 b) (T := []) rfl HENT.out
    (HS.out wa _ (by have := hlB.out; have := HSZ.out; omega) HDa.out (fun b hb => by have := HSZ.out; have := hlB.out; rcases hb with rfl | rfl | hb <;> first | omega | (have := (HO0.out b hb).2; omega))
      (fun b hb h => by have h1 := HDs.out b hb; have := hlB.out; rcases h with h | h | h <;> first | omega | exact h1.2.1 h | exact h1.2.2 h))
    (fun b hb => by have := HSZ.out; have := hlB.out; rcases hb with rfl | rfl | hb <;> first | omega | (have := (HO0.out b hb).2; omega)) (by simp) (Below.refl _ _) (by intro x; rfl)
    (fun pre O V => (∃ Oo, J (nums pre) Oo V ∧ Shares (E + 1) l O Oo ∧ ¬ Oo E ∧ ¬ Oo (E + 1)) ∧ Blk V E [.func (.yield l) #[] #[]] 113 ∧ Blk V (E + 1) [.int .i64 pre.length] 3)
    (fun c pre O V => c = .ret ∧ ∃ Oo, Jx (nums pre) Oo V ∧ (∀ b, Oo b → O b))
    (fun s O A V h hk => ?lowI) (fun c s O A V h hk => ?lowX)
    ⟨⟨O0, HJa.out, ⟨fun b => Iff.rfl⟩, fun h => by have := (HO0.out _ h).2; omega, fun h => by have := (HO0.out _ h).2; omega⟩, HN3.out, HN4.out⟩ (fun s W W' h _ => h) (fun s W W' h _ => h)
    (fun D' V => ∃ Oo, J (nums xs) Oo V ∧ ¬ Oo D' ∧ E ≤ D' ∧ V.heap[D']? = some (.deferred (some []))) _ ?assign ?body ?done ?stop ?tail
  case lowI =>
    obtain ⟨⟨Oo, h1, h2, h3, h4⟩, h6, h7⟩ := h
    have hsz := HSZ.out
    have hb := hlB.out
    exact ⟨⟨Oo, HJ.out _ _ _ _ h1 (hk.less (fun k _ hz => by rcases hz with hz | hz; exact .inl ((h2.iff k).2 (.inr (.inr hz))); exact .inr ⟨by omega, by simp⟩)), h2, h3, h4⟩, h6.keeps hk (.inr ⟨by omega, by simp⟩), h7.keeps hk (.inr ⟨by omega, by simp⟩)⟩
  case lowX =>
    have hsz := HSZ.out
    obtain ⟨hc, Oo, h1, h2⟩ := h
    exact ⟨hc, Oo, HJx.out _ _ _ _ h1 (hk.less (fun k _ hz => by rcases hz with hz | hz; exact .inl (h2 k hz); exact .inr ⟨by omega, by simp⟩)), h2⟩
  case assign =>
    intro l' x V K hK
    gi_wp2
    exact hK
  case done =>
    rintro D' ys O V ⟨hD', hnO, _⟩ rfl ⟨⟨Oo, h1, h2, h3, h4⟩, h6, h7⟩ hK
    exact ⟨Oo, h1, fun h => hnO ((h2.iff D').2 (.inr (.inr h))), by have := HSZ.out; omega, hK⟩
  case tail =>
    rintro D' V ⟨Oo, hj, hnO, hED, hK⟩
    have HJf := Lib.hid (HJ.out _ _ _ _ hj (Keeps.put V (l := D') (.deferred none) (fun h => h.elim hnO (fun h2 => by omega))))
    have HK := Lib.hid hK
    clear hj hK hnO
    go_wp2
    refine leavesInM_all (v := .tuple #[]) [D'] ?_ ?_ ?_ ?_
    · simp
    · intro D'' h
      simp at h
      rw [h]; exact HK.out
    · exact results_none rfl _ _ _
    · have hjt : J (nums xs) Oo (V.putObj D' (.deferred none)) := HJf.out
      first | exact ⟨⟨_, rfl⟩, .inl ⟨_, Oo, rfl, hjt⟩⟩ | exact ⟨⟨_, rfl⟩, .inl ⟨Oo, hjt⟩⟩
  case stop =>
    rintro D' c pre O V ⟨hD', hnO⟩ hSp ⟨rfl, h⟩ hK
    refine .inr ⟨rfl, ?_⟩
    have hsz := HSZ.out
    have hsp : pre <+: xs := hSp
    refine leavesInM_all (v := .tuple #[]) [D'] ?_ ?_ ?_ ?_
    · simp
    · intro D'' h
      simp at h
      rw [h]; exact hK
    · exact results_none rfl _ _ _
    · obtain ⟨Oo, h1, h2⟩ := h
      exact ⟨⟨_, rfl⟩, .inr ⟨nums pre, Oo, nums_prefix hsp, HJx.out _ _ _ _ h1 (Keeps.put V (l := D') (.deferred none) (fun h => h.elim (fun h => hnO (h2 _ h)) (fun h2 => by omega)))⟩⟩
  case body =>
    rintro l2 pre x O V ⟨⟨Oo, hj, hsh, hnE, hnE1⟩, hbE, hbK⟩ hlt hsz hOV
    obtain ⟨k, hk⟩ : ∃ k, k = pre.length := ⟨_, rfl⟩
    rw [← hk] at hbK hlt
    have hcK := hbK.cell_at (o := 0) rfl
    have hcE := hbE.cell_at (o := 0) rfl
    have hkk : k ≤ 100000 := by omega
    have hl := hlB.out
    have hs := HSZ.out
    obtain ⟨fn, tmps, assign, body, hy, hR⟩ := HY.out (nums pre) ((k : Int), x) Oo V hj (by rw [nums_len, ← hk]; omega)
    have ln : (pre ++ [x]).length = k + 1 := by rw [List.length_append, List.length_singleton, ← hk]
    have hsn : nums (pre ++ [x]) = nums pre ++ [((k : Int), x)] := by rw [nums_snoc, ← hk]
    have FT : Hid (∀ V', J (nums pre ++ [((k : Int), x)]) (grow Oo V V') V' → Keeps (fun b => ¬ Oo b) V V' → V'.cell? ⟨E + 1, 0, none⟩ = some (.int .i64 k) ∧ V'.frozen? ⟨E + 1, 0, none⟩ = false ∧ ∀ V4, V4 = V'.setCell ⟨E + 1, 0, none⟩ (.int .i64 ((k : Int) + 1)) → Keeps (fun b => ¬ O b) V V4 ∧
        (∃ Oo, J (nums (pre ++ [x])) Oo V4 ∧ Shares (E + 1) l (grow O V V4) Oo ∧ ¬ Oo E ∧ ¬ Oo (E + 1)) ∧ Blk V4 E [.func (.yield l) #[] #[]] 113 ∧ Blk V4 (E + 1) [.int .i64 (pre ++ [x]).length] 3) := Lib.hid (by
      intro V' h1 h2
      have bK' := hbK.keeps h2 hnE1
      have bE' := hbE.keeps h2 hnE
      refine ⟨bK'.cell_at rfl, bK'.thawed 0, fun V4 hV4 => ?_⟩
      have kV4 : Keeps (fun b => b ≠ E + 1) V' V4 := by rw [hV4]; exact keeps_set _ _ (by simp)
      have hz4 : V4.heap.size = V'.heap.size := by rw [hV4]; simp [World.setCell]
      have eg : grow O V V4 = grow O V V' := by unfold grow; rw [hz4]
      have nE1 : ¬ grow Oo V V' (E + 1) := grow_not hnE1 (by omega)
      rw [hsn, ln, eg]
      exact ⟨(h2.less (fun b _ h h3 => h ((hsh.iff b).2 (.inr (.inr h3))))).trans kV4 (fun b _ h e => h ((hsh.iff b).2 (.inl e))), ⟨_, HJ.out _ _ _ _ h1 (kV4.less (fun b _ hz e => by subst e; exact hz.elim nE1 (fun h => by omega))), hsh.grow V V V' rfl, grow_not hnE (by omega), nE1⟩, bE'.keeps kV4 (by omega), by rw [hV4]; exact bK'.set 0 _⟩)
    have FX : Hid (∀ V', Jx (nums pre ++ [((k : Int), x)]) (grow Oo V V') V' → Keeps (fun b => ¬ Oo b ∧ b ≠ l) V V' → Keeps (fun b => ¬ O b) V V' ∧ ∃ Oo, Jx (nums (pre ++ [x])) Oo V' ∧ (∀ b, Oo b → grow O V V' b)) := Lib.hid (by
      intro V' h1 h2
      rw [hsn]
      exact ⟨h2.less (fun b _ h => ⟨fun h3 => h ((hsh.iff b).2 (.inr (.inr h3))), fun e => h ((hsh.iff b).2 (.inr (.inl e)))⟩), _, h1, fun b hb => ((hsh.grow V V V' rfl).iff b).2 (.inr (.inr hb))⟩)
    have HRd := Lib.hid (hR.mono (R' := fun e W' => ∃ bb : Bool, e = .returned (.bool bb) ∧ ((bb = true ∧ J (nums pre ++ [((k : Int), x)]) (grow Oo V W') W' ∧ Keeps (fun k => ¬ Oo k) V W') ∨ (bb = false ∧ Jx (nums pre ++ [((k : Int), x)]) (grow Oo V W') W' ∧ Keeps (fun k => ¬ Oo k ∧ k ≠ l) V W')))
      (fun e W' h => by
        rcases h with ⟨rfl, h1, h2⟩ | ⟨rfl, h1, h2⟩
        · exact ⟨true, rfl, .inl ⟨rfl, h1, h2⟩⟩
        · exact ⟨false, rfl, .inr ⟨rfl, h1, h2⟩⟩))
    dsimp only at hy
    clear hR hj hsh hbE hbK hlt hOV hk hnE hnE1 ln hsn
    gi_wp2
    refine (roundIn_any l2 HRd.out).mono ?_
    rintro e V' ⟨bb, rfl, hh⟩
    rcases hh with ⟨rfl, h1, h2⟩ | ⟨rfl, h1, h2⟩
    · obtain ⟨c1, c2, hfin⟩ := FT.out V' h1 h2
      have HFIN : Hid (∀ V4, V4 = V'.setCell ⟨E + 1, 0, none⟩ (.int .i64 ((k : Int) + 1)) → Keeps (fun b => ¬ O b) V V4 ∧ (∃ Oo, J (nums (pre ++ [x])) Oo V4 ∧ Shares (E + 1) l (grow O V V4) Oo ∧ ¬ Oo E ∧ ¬ Oo (E + 1)) ∧ Blk V4 E [.func (.yield l) #[] #[]] 113 ∧ Blk V4 (E + 1) [.int .i64 (pre ++ [x]).length] 3) := hfin
      clear h1 h2 hfin hy hcE hcK
      gi_wp2
      exact HFIN.out _ rfl
    · have HFX := Lib.hid (FX.out V' h1 h2)
      clear h1 h2 hy hcE hcK
      gi_wp2
      exact ⟨HFX.out.1, rfl, HFX.out.2⟩
end Go.Proofs.Ytcnoaflojojfkab.Seqs
