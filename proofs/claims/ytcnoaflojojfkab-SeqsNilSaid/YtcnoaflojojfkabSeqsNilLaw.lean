/- SeqsNil: what is nil tells nothing: the walk of the law. No condition. -/
import Derived.Test.YtcnoaflojojfkabSeqsNil
namespace Go.Proofs.Ytcnoaflojojfkab.Seqs
open Go.RowKit Go.Shelf
set_option linter.unusedVariables false
set_option linter.unusedSimpArgs false
set_option maxRecDepth 100000
theorem eq_fn2 (gf : Nat) (lb : Array Value) (w : World) : (binOp BinOp.eql 58 (.func (.func gf) #[] lb) .nilFunc).run Try.prog w = .ok (.bool false) w := by kernel_rfl
attribute [local go_sem] Oper.semAt_some eq_fn eq_nil eq_fn2

set_option maxHeartbeats 1000000 in
/-- of none no lists come -/
theorem count_lists (B1 B2 : Nat) (n : Int) (w : World) (hB1 : Blk w B1 [.nilFunc] 36) (hB2 : Blk w B2 [.int .i64 n] 3) :
    Calls Try.prog 43 #[.func (.func 71) #[] #[.pointer (some ⟨B1, 0, none⟩), .pointer (some ⟨B2, 0, none⟩)]] w fun e w' => e = .returned (.int .i64 0) ∧ Fr [] w w' := by
  have H1 := Lib.hid hB1
  have H2 := Lib.hid hB2
  clear hB1 hB2
  refine calls_marks Try.func43 rfl ?_
  simp only [Try.ntmps43, List.size_toArray, List.length_cons, List.length_nil, Nat.reduceAdd, Nat.reduceSub, Array.replicate_succ, Array.replicate_zero, List.push_toArray, List.append_toArray, List.nil_append, List.cons_append]
  go_upto_region 2 with (fail)
  obtain ⟨B3, F3⟩ := new1 w [.int .i64 0] 3
  obtain ⟨wa, hwa⟩ : ∃ x : World, x = w.alloc (.cells #[.int .i64 0] 3) := ⟨_, rfl⟩
  rw [← hwa]
  rw [← hwa] at B3 F3
  obtain ⟨E, hE⟩ : ∃ E, E = w.heap.size := ⟨_, rfl⟩
  rw [← hE] at B3 ⊢
  have HE : Hid (w.heap.size ≤ E ∧ E < wa.heap.size) := ⟨by omega, B3.lt⟩
  have HB := Lib.hid B3
  have HF := Lib.hid F3
  clear hwa hE B3 F3
  go_upto_block 0 with (fail)
  refine' wp_loop_block (α := Value) (encs := fun x => #[x]) (w0 := wa) (O0 := fun _ => False) (T := []) rfl (enters_of Try.func71 (by kernel_rfl) rfl)
    (chunks_nil_stops (fun x => #[x]) (fun _ => False) (fun ys _ => ys = []) (fun _ _ => False) 0 B1 B2 n wa (H1.out.fr HF.out (by simp)) (H2.out.fr HF.out (by simp)) (fun _ => rfl))
    (fun b hb => hb.elim) (by simp) (Below.refl _ _) (by intro x; rfl)
    (fun pre O W => Fr [] wa W) (fun _ _ _ _ => False)
    (fun s O W W' h hk => fr_keeps h hk (fun k h1 _ => .inr ⟨h1, by simp⟩)) (fun _ _ _ _ _ h _ => h)
    (Fr.refl _ _) (fun s W W' h _ => h) (fun s W W' h _ => h)
    (fun D W => wa.heap.size ≤ D ∧ Fr [] wa W ∧ W.heap[D]? = some (.deferred (some []))) _ ?assign ?body ?done ?stop ?tail
  case assign =>
    intro l x W K hK
    gi_wp2
    exact hK
  case body =>
    rintro l pre x O W hF hlt hsz hOW
    omega
  case done =>
    rintro D ys O W hD hys hF hK
    exact ⟨hD, hF, hK⟩
  case stop =>
    rintro D c pre O W hD hSp h hK
    exact h.elim
  case tail =>
    rintro D W ⟨hD, hF, hK⟩
    have cE := (HB.out.fr hF (by simp)).cell_at (o := 0) rfl
    have HFW := Lib.hid ((HF.out.trans0 hF).taken (D := D) (by have := HF.out.size; omega) (.deferred none))
    have HK := Lib.hid hK
    clear hF hK
    go_wp2
    refine leaves_loops (v := .int .i64 0) [D] ?_ ?_ ?_ ?_
    · simp
    · intro D' h'
      simp at h'
      rw [h']; exact HK.out
    · simp [results, Try.f43, go_sem]
    · exact ⟨rfl, HFW.out⟩

set_option maxHeartbeats 4000000 in
theorem nil_walk (n : Int) (_wn : (Lit.int .i64 n).wf = true) {w : World} : Calls Try.prog 11 #[.int .i64 n] w fun e w' => e = .returned (.bool true) ∧ Fr [] w w' := by
  clear _wn
  refine calls_marks Try.func11 rfl ?_
  simp only [Try.ntmps11, List.size_toArray, List.length_cons, List.length_nil, Nat.reduceAdd, Nat.reduceSub, Array.replicate_succ, Array.replicate_zero, List.push_toArray, List.append_toArray, List.nil_append, List.cons_append]
  go_upto_region 1 with (fail)
  obtain ⟨B2, F2⟩ := new1 w [.bool false] 4
  obtain ⟨wa, hwa⟩ : ∃ x : World, x = w.alloc (.cells #[.bool false] 4) := ⟨_, rfl⟩
  rw [← hwa]
  rw [← hwa] at B2 F2
  obtain ⟨L, hL⟩ : ∃ L, L = w.heap.size := ⟨_, rfl⟩
  rw [← hL] at B2 ⊢
  have HL : Hid (w.heap.size ≤ L) := Lib.hid (by omega)
  have HB2 := Lib.hid B2
  have HF2 := Lib.hid F2
  clear hwa hL B2 F2
  go_wp2_with fail
  refine (awake_any _).mono ?_
  rintro e wb ⟨rfl, hf⟩
  have HFb := Lib.hid (HF2.out.trans0 hf)
  have HBb := Lib.hid (HB2.out.fr hf (by simp))
  clear hf HB2 HF2
  go_wp2_with fail
  refine (numbered_nil _).mono ?_
  rintro e wc ⟨rfl, hf, hb⟩
  obtain ⟨X, hX⟩ : ∃ X, X = wb.heap.size := ⟨_, rfl⟩
  rw [← hX] at hb ⊢
  have HX := Lib.hid hb
  have HFc := Lib.hid (HFb.out.trans0 hf)
  have HBc := Lib.hid (HBb.out.fr hf (by simp))
  clear hf hb hX HBb
  go_upto_block 0 with (fail)
  refine' wp_loop_block (α := Int × Int) (encs := fun x => #[.int .i64 x.1, .int .i64 x.2]) (w0 := wc) (O0 := fun _ => False) (T := []) rfl (enters_of Try.func70 (by kernel_rfl) rfl)
    (numbered_nil_stops _ (fun _ => False) (fun ys _ => ys = []) (fun _ _ => False) 0 X wc HX.out (fun _ => rfl))
    (fun b hb => hb.elim) (by simp) (Below.refl _ _) (by intro x; rfl)
    (fun pre O W => Fr [] wc W) (fun _ _ _ _ => False)
    (fun s O W W' h hk => fr_keeps h hk (fun k h1 _ => .inr ⟨h1, by simp⟩)) (fun _ _ _ _ _ h _ => h)
    (Fr.refl _ _) (fun s W W' h _ => h) (fun s W W' h _ => h)
    (fun D W => wc.heap.size ≤ D ∧ Fr [] wc W ∧ W.heap[D]? = some (.deferred (some []))) _ ?assign ?body ?done ?stop ?tail
  case assign =>
    intro l x W K hK
    gi_wp2
    exact hK
  case body =>
    rintro l pre x O W hF hlt hsz hOW
    omega
  case done =>
    rintro D ys O W hD hys hF hK
    exact ⟨hD, hF, hK⟩
  case stop =>
    rintro D c pre O W hD hSp h hK
    exact h.elim
  case tail =>
  rintro D1 wd ⟨hD1, hf, hK1⟩
  have HD1 : Hid (w.heap.size ≤ D1) := Lib.hid (by have := HFc.out.size; omega)
  have HFd := Lib.hid (HFc.out.trans0 hf)
  have HBd := Lib.hid (HBc.out.fr hf (by simp))
  have HK1 := Lib.hid hK1
  clear hf hK1 hD1 HBc HX
  go_wp2_with fail
  refine (steps_nil _).mono ?_
  rintro e we ⟨rfl, hf, hb⟩
  obtain ⟨Y, hY⟩ : ∃ Y, Y = wd.heap.size := ⟨_, rfl⟩
  rw [← hY] at hb ⊢
  have HY := Lib.hid hb
  have HFe := Lib.hid (HFd.out.trans0 hf)
  have HBe := Lib.hid (HBd.out.fr hf (by simp))
  have HK1e : Hid (we.heap[D1]? = some (.deferred (some []))) := Lib.hid ((hf.block D1 (Array.getElem?_eq_some_iff.1 HK1.out).1 (by simp)).trans HK1.out)
  clear hf hb hY HBd HK1
  go_upto_block 2 with (fail)
  refine' wp_loop_block (α := Int × Int) (encs := fun x => #[.int .i64 x.1, .int .i64 x.2]) (w0 := we) (O0 := fun _ => False) (T := []) rfl (enters_of Try.func72 (by kernel_rfl) rfl)
    (steps_nil_stops _ (fun _ => False) (fun ys _ => ys = []) (fun _ _ => False) 0 Y we HY.out (fun _ => rfl))
    (fun b hb => hb.elim) (by simp) (Below.refl _ _) (by intro x; rfl)
    (fun pre O W => Fr [] we W) (fun _ _ _ _ => False)
    (fun s O W W' h hk => fr_keeps h hk (fun k h1 _ => .inr ⟨h1, by simp⟩)) (fun _ _ _ _ _ h _ => h)
    (Fr.refl _ _) (fun s W W' h _ => h) (fun s W W' h _ => h)
    (fun D W => we.heap.size ≤ D ∧ Fr [] we W ∧ W.heap[D]? = some (.deferred (some []))) _ ?assign ?body ?done ?stop ?tail
  case assign =>
    intro l x W K hK
    gi_wp2
    exact hK
  case body =>
    rintro l pre x O W hF hlt hsz hOW
    omega
  case done =>
    rintro D ys O W hD hys hF hK
    exact ⟨hD, hF, hK⟩
  case stop =>
    rintro D c pre O W hD hSp h hK
    exact h.elim
  case tail =>
  rintro D2 wf ⟨hD2, hf, hK2⟩
  have HDD : Hid (D1 < we.heap.size ∧ we.heap.size ≤ D2) := ⟨(Array.getElem?_eq_some_iff.1 HK1e.out).1, hD2⟩
  have HD2 : Hid (w.heap.size ≤ D2) := Lib.hid (by have := HFe.out.size; omega)
  have HFf := Lib.hid (HFe.out.trans0 hf)
  have HBf := Lib.hid (HBe.out.fr hf (by simp))
  have HK1f : Hid (wf.heap[D1]? = some (.deferred (some []))) := Lib.hid ((hf.block D1 (Array.getElem?_eq_some_iff.1 HK1e.out).1 (by simp)).trans HK1e.out)
  have HK2f := Lib.hid hK2
  clear hf hK2 hD2 HBe HK1e HY
  go_wp2_with fail
  refine (awake_any _).mono ?_
  rintro e w1 ⟨rfl, hf⟩
  have G1 : Hid (Fr [] wf w1) := hf
  clear hf
  go_wp2_with fail
  refine (take_nil n _).mono ?_
  rintro e w2 ⟨⟨f, rfl, hi⟩, hf⟩
  have G2 : Hid (Fr [] wf w2) := Lib.hid (G1.out.trans0 hf)
  have HI2 := Lib.hid hi
  clear hi
  clear hf
  go_wp2_with fail
  refine (all_it _ _ [] _ HI2.out (by simp)).mono ?_
  rintro e w3 ⟨⟨a, c, rfl, _⟩, hf⟩
  have G3 : Hid (Fr [] wf w3) := Lib.hid (G2.out.trans0 hf)
  clear hf
  go_wp2_with fail
  refine (skip_nil n _).mono ?_
  rintro e w4 ⟨⟨f, rfl, hi⟩, hf⟩
  have G4 : Hid (Fr [] wf w4) := Lib.hid (G3.out.trans0 hf)
  have HI4 := Lib.hid hi
  clear hi
  clear hf
  go_wp2_with fail
  refine (all_it _ _ [] _ HI4.out (by simp)).mono ?_
  rintro e w5 ⟨⟨a, c, rfl, _⟩, hf⟩
  have G5 : Hid (Fr [] wf w5) := Lib.hid (G4.out.trans0 hf)
  clear hf
  go_wp2_with fail
  refine (both_nil _).mono ?_
  rintro e w6 ⟨⟨f, rfl, hi⟩, hf⟩
  have G6 : Hid (Fr [] wf w6) := Lib.hid (G5.out.trans0 hf)
  have HI6 := Lib.hid hi
  clear hi
  clear hf
  go_wp2_with fail
  refine (all_it _ _ [] _ HI6.out (by simp)).mono ?_
  rintro e w7 ⟨⟨a, c, rfl, _⟩, hf⟩
  have G7 : Hid (Fr [] wf w7) := Lib.hid (G6.out.trans0 hf)
  clear hf
  go_wp2_with fail
  refine (once_nil _).mono ?_
  rintro e w8 ⟨⟨f, rfl, hi⟩, hf⟩
  have G8 : Hid (Fr [] wf w8) := Lib.hid (G7.out.trans0 hf)
  have HI8 := Lib.hid hi
  clear hi
  clear hf
  go_wp2_with fail
  refine (all_it _ _ [] _ HI8.out (by simp)).mono ?_
  rintro e w9 ⟨⟨a, c, rfl, _⟩, hf⟩
  have G9 : Hid (Fr [] wf w9) := Lib.hid (G8.out.trans0 hf)
  clear hf
  go_wp2_with fail
  refine (count_nil _).mono ?_
  rintro e w10 ⟨rfl, hf⟩
  have G10 : Hid (Fr [] wf w10) := Lib.hid (G9.out.trans0 hf)
  clear hf
  go_wp2_with fail
  refine (chunks_nil n _).mono ?_
  rintro e w11 ⟨rfl, hf, hb1, hb2⟩
  have G11 : Hid (Fr [] wf w11) := Lib.hid (G10.out.trans0 hf)
  have H1 := Lib.hid hb1
  have H2 := Lib.hid hb2
  clear hb1 hb2
  clear hf
  go_wp2_with fail
  refine (count_lists _ _ n _ H1.out H2.out).mono ?_
  rintro e w12 ⟨rfl, hf⟩
  have G12 : Hid (Fr [] wf w12) := Lib.hid (G11.out.trans0 hf)
  clear hf
  go_wp2_with fail
  refine (some_none .nilFunc n _ (.inl rfl)).mono ?_
  rintro e w13 ⟨rfl, hf⟩
  have G13 : Hid (Fr [] wf w13) := Lib.hid (G12.out.trans0 hf)
  clear hf
  have HFz := Lib.hid (HFf.out.trans0 G13.out)
  have HBz := Lib.hid (HBf.out.fr G13.out (by simp))
  have HK1z : Hid (w13.heap[D1]? = some (.deferred (some []))) := Lib.hid ((G13.out.block D1 (Array.getElem?_eq_some_iff.1 HK1f.out).1 (by simp)).trans HK1f.out)
  have HK2z : Hid (w13.heap[D2]? = some (.deferred (some []))) := Lib.hid ((G13.out.block D2 (Array.getElem?_eq_some_iff.1 HK2f.out).1 (by simp)).trans HK2f.out)
  have hcz := HBz.out.cell_at (o := 0) rfl
  have hfz := HBz.out.thawed 0
  have FIN : Hid (∀ V, V = w13.setCell ⟨L, 0, none⟩ (.bool true) → Blk V L [.bool true] 4 ∧ Fr [] w V ∧ V.heap[D1]? = some (.deferred (some [])) ∧ V.heap[D2]? = some (.deferred (some []))) := Lib.hid (fun V hV => by
    rw [hV]
    have hb := HBz.out
    have n1 : D1 ≠ L := fun e => by have h := HK1z.out; rw [e] at h; unfold Blk at hb; rw [h] at hb; cases hb
    have n2 : D2 ≠ L := fun e => by have h := HK2z.out; rw [e] at h; unfold Blk at hb; rw [h] at hb; cases hb
    exact ⟨hb.set 0 _, HFz.out.set (.inr HL.out) _, (Below.heap_setCell _ _ _ _ n1).trans HK1z.out, (Below.heap_setCell _ _ _ _ n2).trans HK2z.out⟩)
  go_wp2
  obtain ⟨f1, f2, f3, f4⟩ := FIN.out _ rfl
  have hd : ∀ D ∈ [D2, D1], (w13.setCell ⟨L, 0, none⟩ (.bool true)).heap[D]? = some (.deferred (some [])) := by
    intro D h
    simp at h
    rcases h with rfl | rfl
    · exact f4
    · exact f3
  have hnd : [D2, D1].Nodup := by have := HDD.out; simp; omega
  have hb := (takeAll_blk [D2, D1] f1 hnd hd).cell_at (o := 0) rfl
  refine leaves_loops (v := .bool true) [D2, D1] hnd hd ?_ ⟨rfl, takeAll_fr [D2, D1] f2 (by have := HD1.out; have := HD2.out; intro D h; simp at h; rcases h with rfl | rfl <;> assumption)⟩
  simp [results, Try.f11, go_sem, hb]
end Go.Proofs.Ytcnoaflojojfkab.Seqs
