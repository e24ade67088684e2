/- The law's own awake call, and what queries that are alike share. No condition. -/
import Derived.Test.YtcnoaflojojfkabNfaEnds
namespace Go.Proofs.Ytcnoaflojojfkab.Nfa
open Go.RowKit Go.Proofs.Ytcnoaflojojfkab.Pat Go.Proofs.Ytcnoaflojojfkab.Qry
set_option linter.unusedVariables false
set_option linter.unusedSimpArgs false
set_option maxRecDepth 100000
theorem like_get {es es' : List El} (h : Like es es') {i : Nat} {e : El} (he : es[i]? = some e) : ∃ e', es'[i]? = some e' ∧ e'.neg = e.neg ∧ e'.mn = e.mn ∧ e'.mx = e.mx := by
  have hi := (List.getElem?_eq_some_iff.1 he).1
  have he' : es'[i]? = some (es'[i]'(by rw [h.1]; exact hi)) := List.getElem?_eq_getElem _
  obtain ⟨_, h2, h3, h4⟩ := h.2 i e _ he he'
  exact ⟨_, he', h2, h3, h4⟩
theorem like_next {es es' : List El} (h : Like es es') : ∀ (d s : Nat), es.length - s = d → nextOf es' s = nextOf es s
  | 0, s, hd => by rw [nextOf_end (by rw [h.1]; omega), nextOf_end (by omega)]
  | d + 1, s, hd => by
    obtain ⟨e, he⟩ : ∃ e, es[s]? = some e := ⟨_, List.getElem?_eq_getElem (by omega)⟩
    obtain ⟨e', he', hn, _⟩ := like_get h he
    cases hc : e.neg with
    | false => rw [nextOf_stop he hc, nextOf_stop he' (by rw [hn, hc])]
    | true => rw [nextOf_go he hc, nextOf_go he' (by rw [hn, hc])]; exact like_next h d (s + 1) (by omega)
theorem like_last {es es' : List El} (h : Like es es') : ∀ k, k ≤ es.length → lastOf es' k = lastOf es k
  | 0, _ => rfl
  | k + 1, hk => by
    obtain ⟨e, he⟩ : ∃ e, es[k]? = some e := ⟨_, List.getElem?_eq_getElem (by omega)⟩
    obtain ⟨e', he', hn, _⟩ := like_get h he
    cases hc : e.neg with
    | false => rw [lastOf_pos he hc, lastOf_pos he' (by rw [hn, hc])]
    | true => rw [lastOf_neg he hc, lastOf_neg he' (by rw [hn, hc])]; exact like_last h k (by omega)
theorem like_few {es es' : List El} (h : Like es es') (s : Sta) : few es' s = few es s := by
  unfold Nfa.few
  split
  · cases he : es[s.e.toNat]? with
    | none =>
      have : es'[s.e.toNat]? = none := by
        rw [List.getElem?_eq_none_iff] at he ⊢
        rw [h.1]; exact he
      rw [this]
    | some e =>
      obtain ⟨e', he', _, hm, _⟩ := like_get h he
      rw [he']
      simp only [hm]
  · rfl
theorem like_moves {es es' : List El} (h : Like es es') (sts : List Sta) (s : Sta) : movesOf es' sts s = movesOf es sts s := by
  unfold movesOf l2Of
  rw [like_few h, like_next h _ _ rfl]

def aw : List El := [⟨⟨#[97]⟩, none, 0, 0, false, 1, 2, none, 0, 0⟩, ⟨⟨#[98]⟩, none, 0, 0, false, 1, 1, none, 0, 0⟩]
theorem aw_upto : upto aw aw.length = [⟨-1, 0⟩, ⟨0, 1⟩, ⟨0, 2⟩, ⟨1, 1⟩] := by rfl
theorem aw_moves : movesOf aw [⟨-1, 0⟩, ⟨0, 1⟩, ⟨0, 2⟩, ⟨1, 1⟩] ⟨0, 1⟩ = [2, 3] := by decide
theorem aw_last : lastOf aw aw.length = ((1 : Nat) : Int) := by rfl
set_option maxHeartbeats 2000000 in
theorem awake_any (w : World) : Calls Try.prog 61 #[] w fun e w' => e = .returned (.bool true) ∧ Fr [] w w' := by
  obtain ⟨w1, hw1⟩ : ∃ x, x = w.alloc (.cells (qcells aw).toArray 83) := ⟨_, rfl⟩
  obtain ⟨w2, hw2⟩ : ∃ x, x = w1.alloc (.cells #[.slice (some ⟨w.heap.size, 0, none⟩) 2 2, .int .i64 0, .int .i64 0] 67) := ⟨_, rfl⟩
  have hR : Reads w2 6 (.slice (some ⟨w.heap.size, 0, none⟩) aw.length 2) aw.length (qcells aw) := by
    refine ⟨rfl, _, _, rfl, by decide, .inr ⟨_, _, rfl, fun j u hu => ?_⟩⟩
    have hb : Blk w1 w.heap.size (qcells aw) 83 := by rw [hw1]; exact Blk.new w _ _
    rw [hw2, (hb.alloc _).cell, Nat.zero_add]; exact hu
  have hF : Fr [] w w2 := by rw [hw2, hw1]; exact ((Fr.refl [] w).alloc _).alloc _
  have hsees : ∀ e ∈ aw, Sees w2 e := fun e he => by
    have hs : e.tn = 0 ∧ e.pn = 0 ∧ e.ta = none ∧ e.tc = 0 ∧ e.pa = none ∧ e.pc = 0 := by
      simp only [aw, List.mem_cons, List.not_mem_nil, or_false] at he
      rcases he with rfl | rfl <;> exact ⟨rfl, rfl, rfl, rfl, rfl, rfl⟩
    obtain ⟨h1, h2, h3, h4, h5, h6⟩ := hs
    refine ⟨⟨[], by omega, ?_⟩, [], by omega, ?_⟩
    · rw [h1, h3, h4]; exact Reads.nil _ _
    · rw [h2, h5, h6]; exact Reads.nil _ _
  have hfine : Fine aw := ⟨by decide, fun e he => by
    simp only [aw, List.mem_cons, List.not_mem_nil, or_false] at he
    rcases he with rfl | rfl <;> decide⟩
  go_enter Try.func61, Try.ntmps61
  go_wp2_with fail
  generalize hW : World.alloc (World.alloc w _) _ = W
  obtain rfl : w2 = W := by rw [← hW, hw2, hw1]; rfl
  have HF2 := Lib.hid hF
  clear hW hw2 hw1 hF
  refine (new_any aw _ 2 0 0 w2 hR hsees hfine).mono ?_
  rintro _ w3 ⟨nb, es', a', c', al, cl, rfl, hLk, hN, hf⟩
  rw [aw_upto] at hN
  have HLK := Lib.hid hLk
  have HN3 := Lib.hid hN
  have F3 := Lib.hid (HF2.out.trans0 hf)
  have hl2 : es'.length = 2 := hLk.1
  have HL2 := Lib.hid hl2
  clear hR hsees hfine hLk hN hf hl2
  go_wp2_with fail
  obtain ⟨e0, he0, hn0, hm0, hx0⟩ := like_get HLK.out (i := 0) (e := ⟨⟨#[97]⟩, none, 0, 0, false, 1, 2, none, 0, 0⟩) rfl
  obtain ⟨e1, he1, hn1, hm1, hx1⟩ := like_get HLK.out (i := 1) (e := ⟨⟨#[98]⟩, none, 0, 0, false, 1, 1, none, 0, 0⟩) rfl
  have HE0 := Lib.hid (And.intro he0 hm0)
  have HE1 := Lib.hid (And.intro he1 hm1)
  clear he0 hn0 hm0 hx0 he1 hn1 hm1 hx1
  refine (moves_in nb es' _ a' c' 0 0 al cl 1 ⟨0, 1⟩ w3 HN3.out rfl (.inr ⟨0, e0, rfl, HE0.out.1⟩) (by have := HL2.out; omega) (by decide) (by decide)).mono ?_
  rintro _ w4 ⟨am, cm, rfl, hV, hf⟩
  rw [like_moves HLK.out, aw_moves] at hV
  rw [like_moves HLK.out, aw_moves]
  have V4 := Lib.hid hV
  have HN4 := Lib.hid (HN3.out.fr0 hf)
  have F4 := Lib.hid (F3.out.trans0 hf)
  clear hV hf HN3 F3
  have n3 := HN4.out.top.cell_at (o := 3) rfl
  obtain ⟨_, a6, c6, h1, _, h | ⟨g6, o6, h2, h⟩⟩ := V4.out.reads
  · simp at h
  simp only [List.length_cons, List.length_nil, Value.slice.injEq, true_and] at h1
  obtain ⟨rfl, rfl⟩ := h1
  subst h2
  have m0 : w4.cell? ⟨g6, o6, none⟩ = some (.int .i64 2) := by have := h 0 _ rfl; simpa using this
  have m1 : w4.cell? ⟨g6, o6 + 1, none⟩ = some (.int .i64 3) := h 1 _ rfl
  clear h
  go_wp2_with (first | (go_at_call 58; refine (len_any nb _ _ _ _ n3).mono ?_; rintro e w' ⟨rfl, rfl⟩))
  have HLAST : Hid (lastOf es' es'.length = ((1 : Nat) : Int)) := Lib.hid (by rw [HLK.out.1, like_last HLK.out _ (Nat.le_refl _)]; exact aw_last)
  clear n3 m0 m1
  refine (ends_any nb es' _ a' c' 0 0 al cl 3 1 ⟨1, 1⟩ e1 w4 HN4.out rfl rfl HE1.out.1 (by have := HL2.out; omega) 1 HLAST.out true (.inl ⟨rfl, by rw [HE1.out.2]; rfl⟩)).mono ?_
  rintro _ w5 ⟨rfl, hf⟩
  have HN5 := Lib.hid (HN4.out.fr0 hf)
  have F5 := Lib.hid (F4.out.trans0 hf)
  clear hf HN4 F4 V4
  go_wp2_with fail
  refine (ends_any nb es' _ a' c' 0 0 al cl 2 0 ⟨0, 2⟩ e0 w5 HN5.out rfl rfl HE0.out.1 (by have := HL2.out; omega) 1 HLAST.out false (.inr ⟨by decide, rfl⟩)).mono ?_
  rintro _ w6 ⟨rfl, hf⟩
  have F6 := Lib.hid (F5.out.trans0 hf)
  clear hf HN5 F5
  go_wp2_with fail
  go_ret
  exact ⟨rfl, F6.out⟩
end Go.Proofs.Ytcnoaflojojfkab.Nfa
