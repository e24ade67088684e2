/- The chain of some numbers; the list of a chain; two numbers and the newest of them: what these functions of pers answer. No condition. -/
import Derived.Test.YtcnoaflojojfkaaPers
namespace Go.Proofs.Ytcnoaflojojfkaa.Pers
open Go.RowKit Go.Shelf
set_option linter.unusedVariables false
set_option linter.unusedSimpArgs false
set_option maxRecDepth 100000
attribute [local go_sem] Oper.semAt_some

theorem info_int : (Try.prog.info? 3).map (fun i => (i.zero, i.size, i.bytes)) = some (some (.int .i64 0), 1, 8) := by kernel_rfl
theorem made_int (w : World) (n : Nat) : (w.alloc (.cells (madeCells (Value.int .i64 0).cells (n * 1)).toList.toArray 3)) = w.alloc (.cells (List.replicate n (Value.int .i64 0)).toArray 3) := by
  have e : (Value.int .i64 0).cells = #[Value.int .i64 0] := rfl
  rw [e, Nat.mul_one, toList_madeCells_one]

set_option maxHeartbeats 1000000 in
theorem of_any (v : Value) (zs : List Int) (w : World) (hr : Reads w 1 v zs.length (zs.map (Value.int .i64))) (hn : zs.length ≤ 1000000) :
    Calls Try.prog 33 #[v] w fun e w' => (∃ p, e = .returned (.pointer p) ∧ IsCh w.heap.size w'.heap.size w' zs.reverse p) ∧ Fr [] w w' := by
  obtain ⟨_, a, c, rfl, hc, _⟩ := id hr
  have HR := Lib.hid hr
  clear hr
  go_enter Try.func33, Try.ntmps33
  go_wp2_with fail
  go_loopw [3, 8] (fun v3 v8 wr => ∃ (k : Nat) (p : Option Addr), k ≤ zs.length ∧ v8 = .int .i64 k ∧ v3 = .pointer p ∧ IsCh w.heap.size wr.heap.size wr (zs.take k).reverse p ∧ Fr [] w wr) (fun _ v8 _ => zs.length - (intOf v8).toNat)
  case atStart => exact ⟨0, none, Nat.zero_le _, rfl, rfl, rfl, Fr.refl _ _⟩
  case round =>
    obtain ⟨k, p, hk, rfl, rfl, hch, hf⟩ := hrel
    have HC := Lib.hid hch
    have HF := Lib.hid hf
    clear hch hf
    by_cases hlt : k < zs.length
    · obtain ⟨x, hx⟩ : ∃ x, zs[k]? = some x := ⟨zs[k], List.getElem?_eq_getElem _⟩
      obtain ⟨b1, o1, c1, e1, _, h1⟩ := at_reads (HR.out.fr0 HF.out) hx
      simp only [Value.slice.injEq] at e1
      obtain ⟨rfl, _, rfl⟩ := e1
      have HX := Lib.hid hx
      clear hx
      have hl : (zs.take k).reverse.length ≤ 1000000 := by rw [List.length_reverse, List.length_take]; omega
      have HL := Lib.hid hl
      clear hl
      go_wp2_with (first | (go_at_call 34; refine (with_any w.heap.size _ _ p x _ HC.out HF.out.size (Nat.le_refl _) HL.out).mono ?_; rintro e w1 ⟨rfl, hc1, hf1⟩; have HC1 := Lib.hid hc1; have HF1 := Lib.hid (HF.out.trans0 hf1); clear hc1 hf1))
      go_roundw
      case rel => exact ⟨k + 1, _, by omega, by go_num, rfl, by rw [List.take_add_one, HX.out, List.reverse_append]; exact HC1.out, HF1.out⟩
      case measure => simp [intOf]; omega
    · obtain rfl : k = zs.length := by omega
      go_wp2
      go_ret
      exact ⟨⟨p, rfl, by have := HC.out; rwa [List.take_of_length_le (Nat.le_refl _)] at this⟩, HF.out⟩

set_option maxHeartbeats 2000000 in
theorem list_any (lo hi : Nat) (xs : List Int) (p : Option Addr) (w : World) (h : IsCh lo hi w xs p) (hhi : hi ≤ w.heap.size) (hn : xs.length ≤ 1000000) :
    Calls Try.prog 36 #[.pointer p] w fun e w' => (∃ g, e = .returned (.slice (some ⟨g, 0, none⟩) xs.length xs.length) ∧ w.heap.size ≤ g ∧ Blk w' g (xs.reverse.map (Value.int .i64)) 3) ∧ Fr [] w w' := by
  obtain ⟨i0, hi0, hz0, hz1, hz2⟩ := info_parts info_int
  have hm : xs.length ≤ maxLen := by unfold maxLen; omega
  have HC := Lib.hid h
  clear h
  obtain ⟨n, hxn⟩ : ∃ n, n = xs.length := ⟨_, rfl⟩
  rw [← hxn] at hm hn
  rw [← hxn]
  have HXN := Lib.hid hxn
  have HLN : Hid (∀ W, IsCh lo hi W xs p → Calls Try.prog 37 #[.pointer p] W fun e w' => e = .returned (.int .i64 n) ∧ W = w') := Lib.hid (fun W hW => by rw [hxn]; exact len_any lo hi xs p W hW)
  clear hxn
  refine calls_marks Try.func36 rfl ?_
  simp only [Try.ntmps36, List.size_toArray, List.length_cons, List.length_nil, Nat.reduceAdd, Nat.reduceSub, Array.replicate_succ, Array.replicate_zero, List.push_toArray, List.append_toArray, List.nil_append, List.cons_append]
  go_upto_region 3 with (first | (go_at_call 37; refine (HLN.out _ HC.out).mono ?_; rintro e w' ⟨rfl, rfl⟩) | (at_make; refine wpList_make_blk _ rfl _ _ _ rfl 3 i0 (.int .i64 0) 1 8 Try.underlying35 hi0 hz0 hz1 hz2 .i64 .i64 _ _ n rfl rfl rfl rfl (by omega) hm ?_; rw [made_int]))
  obtain ⟨B1, B2, B3, F0⟩ := new3 w (List.replicate n (Value.int .i64 0)) 3 [.slice (some ⟨w.heap.size, 0, none⟩) n n] 35 [.int .i64 n] 3
  rw [List.toArray_replicate] at B1 B2 B3 F0
  obtain ⟨wa, hwa⟩ : ∃ x : World, x = ((w.alloc (.cells (Array.replicate n (Value.int .i64 0)) 3)).alloc (.cells #[.slice (some ⟨w.heap.size, 0, none⟩) n n] 35)).alloc (.cells #[.int .i64 n] 3) := ⟨_, rfl⟩
  rw [← hwa]
  rw [← hwa] at B1 B2 B3 F0
  obtain ⟨L, hL⟩ : ∃ L, L = w.heap.size := ⟨_, rfl⟩
  rw [← hL] at B1 B2 B3 hhi ⊢
  have HL : Hid (L = w.heap.size) := hL
  have HB1 := Lib.hid B1
  have HB2 := Lib.hid B2
  have HB3 := Lib.hid B3
  have HF0 := Lib.hid F0
  have HHI := Lib.hid hhi
  clear hwa B1 B2 B3 F0 hL hhi
  go_wp2_with fail
  refine (back_any p wa).mono ?_
  rintro e wg ⟨rfl, hwg⟩
  obtain ⟨X, hX⟩ : ∃ X, X = wa.heap.size := ⟨_, rfl⟩
  rw [← hX]
  have FG : Hid (Fr [] wa wg) := by rw [hwg]; exact (Fr.refl _ _).alloc _
  have BX : Hid (Blk wg X [.pointer p] 56) := by rw [hwg, hX]; exact Blk.new wa _ _
  have HXL : Hid (L + 1 + 1 < X ∧ X < wg.heap.size) := ⟨by rw [hX]; exact HB3.out.lt, BX.out.lt⟩
  have HFG : Hid (Fr [] w wg) := HF0.out.trans0 FG.out
  have C1 : Hid (Blk wg L (List.replicate n (Value.int .i64 0)) 3) := HB1.out.fr FG.out (by simp)
  have C2 : Hid (Blk wg (L + 1) [.slice (some ⟨L, 0, none⟩) n n] 35) := HB2.out.fr FG.out (by simp)
  have C3 : Hid (Blk wg (L + 1 + 1) [.int .i64 n] 3) := HB3.out.fr FG.out (by simp)
  have HCG : Hid (IsCh lo hi wg xs p) := HC.out.fr0 HFG.out
  clear hwg hX HB1 HB2 HB3 FG HF0
  go_wp2_with fail
  refine' wp_range (w0 := wg) (St := [L, L + 1 + 1]) rfl (enters_of Try.func79 (by kernel_rfl) rfl)
    (back_stops lo hi X wg.heap.size [L, L + 1 + 1] xs p wg HCG.out BX.out (by have := HHI.out; have := HXL.out; omega) (by have := HHI.out; simp; omega) ⟨HXL.out.2, by have := HXL.out; simp; omega⟩)
    (Below.refl _ _) (fun _ => rfl)
    (fun pre W => Fr [L, L + 1 + 1] wg W ∧ Blk W L (List.replicate (n - pre.length) (Value.int .i64 0) ++ pre.reverse.map (Value.int .i64)) 3 ∧ Blk W (L + 1 + 1) [.int .i64 (n - pre.length : Nat)] 3)
    (fun _ _ _ => False)
    (fun s W W' h hk => ⟨h.1.kept hk (Nat.le_refl _) (by simp), h.2.1.kept hk (by have := HXL.out; omega) (by simp), h.2.2.kept hk (by have := HXL.out; omega) (by simp)⟩)
    (fun _ _ _ _ h _ => h)
    ⟨Fr.refl _ _, by simpa using C1.out, by simpa using C3.out⟩ _ ?assign ?body ?done ?stop
  case assign =>
    intro l x W K hK
    gi_wp2
    exact hK
  case body =>
    rintro l pre x W ⟨hF, hB, hN⟩ hlt
    rw [← HXN.out] at hlt
    obtain ⟨m, hm1⟩ : ∃ m, n - pre.length = m + 1 := ⟨n - pre.length - 1, by omega⟩
    rw [hm1] at hB hN
    have hcE := hN.cell_at (o := 0) rfl
    have hfE := hN.thawed 0
    have hcB := (C2.out.fr hF (by simp)).cell_at (o := 0) rfl
    have hcL := hB.cell_at (o := m) (v := .int .i64 0) (by rw [List.getElem?_append_left (by simp)]; simp)
    have hfL := hB.thawed m
    have hmn : m < n := by omega
    have HF := Lib.hid hF
    have HB := Lib.hid hB
    have HN := Lib.hid hN
    have HM := Lib.hid hm1
    have e1 : ((m + 1 : Nat) : Int) - 1 = (m : Int) := by omega
    have e0 : IntKind.i64.wrap (((m + 1 : Nat) : Int) - 1) = (m : Int) := by rw [e1]; exact IntWalk.i64_in _ (by omega)
    have F1 : Hid (∀ V, V = (W.setCell ⟨L + 1 + 1, 0, none⟩ (.int .i64 (m : Int))).setCell ⟨L, m, none⟩ (.int .i64 x) → Fr [L, L + 1 + 1] W V ∧ Blk V L (List.replicate (n - (pre ++ [x]).length) (Value.int .i64 0) ++ (pre ++ [x]).reverse.map (Value.int .i64)) 3 ∧ Blk V (L + 1 + 1) [.int .i64 (n - (pre ++ [x]).length : Nat)] 3) := Lib.hid (by
      intro V hV
      rw [hV]
      have hl : n - (pre ++ [x]).length = m := by rw [List.length_append]; have := HM.out; simp; omega
      rw [hl]
      refine ⟨((Fr.refl _ _).set (by simp) _).set (by simp) _, ?_, ?_⟩
      · have h := (HB.out.set_ne (a := ⟨L + 1 + 1, 0, none⟩) (by simp; omega) (.int .i64 (m : Int))).set m (.int .i64 x)
        rw [List.replicate_succ', List.append_assoc, List.set_append_right _ _ (by simp)] at h
        simpa using h
      · exact ((HN.out.set 0 (.int .i64 (m : Int))).set_ne (a := ⟨L, m, none⟩) (by simp; omega) _))
    clear hF hB hN hm1 hlt
    have hne : ¬ L = L + 1 + 1 := by omega
    have hne2 : ¬ L + 1 = L + 1 + 1 := by omega
    gi_wp2
    have f1 := F1.out _ rfl
    exact ⟨(KeepsOthers.setCell _ _ _).trans (KeepsOthers.setCell _ _ _), Kept.of_fr f1.1, HF.out.same f1.1, f1.2.1, f1.2.2⟩
  case done =>
    rintro D ys W hD hys ⟨hF, hB, hN⟩ hK
    rw [hys, ← HXN.out, Nat.sub_self] at hB
    have cB := (C2.out.fr hF (by simp)).cell_at (o := 0) rfl
    have HF := Lib.hid hF
    have HB := Lib.hid hB
    have HK := Lib.hid hK
    have HD := Lib.hid hD
    clear hF hB hN hK hD hys
    go_wp2
    refine leaves_loop HK.out (results_tmp rfl _ _ _) ⟨⟨L, rfl, by rw [← HL.out]; exact Nat.le_refl _, ?_⟩, ?_⟩
    · have := HB.out.taken HK.out (.deferred none)
      simpa using this
    · exact (HFG.out.trans HF.out (by have := HL.out; simp; omega)).taken (by have := HFG.out.size; have := HD.out; omega) _
  case stop =>
    rintro D c pre W hD hSp h hK
    exact h.elim
end Go.Proofs.Ytcnoaflojojfkaa.Pers
