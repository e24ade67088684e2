/- Iterators over numbers: what tells a list; the list of some of what comes, and how many come. No condition. -/
import Derived.Test.YtcnoaflojojfkabSeqs
namespace Go.Proofs.Ytcnoaflojojfkab.Seqs
open Go.RowKit Go.Shelf
set_option linter.unusedVariables false
set_option linter.unusedSimpArgs false
set_option maxRecDepth 100000
attribute [local go_sem] Oper.semAt_some

theorem info_int : (Try.prog.info? 3).map (fun i => (i.zero, i.size, i.bytes)) = some (some (.int .i64 0), 1, 8) := by kernel_rfl
theorem eq_fn (gf : Nat) (lb : Array Value) (w : World) : (binOp BinOp.eql 36 (.func (.func gf) #[] lb) .nilFunc).run Try.prog w = .ok (.bool false) w := by kernel_rfl
theorem eq_nil (w : World) : (binOp BinOp.eql 36 .nilFunc .nilFunc).run Try.prog w = .ok (.bool true) w := by kernel_rfl
attribute [local go_sem] eq_fn eq_nil
theorem fr_keeps {S : List Nat} {Z : Nat → Prop} {a b c : World} (h : Fr S a b) (k : Keeps Z b c) (hz : ∀ k, k < a.heap.size → k ∉ S → Z k) : Fr S a c :=
  ⟨k.os.trans h.os, k.tape.trans h.tape, k.output.trans h.output, Nat.le_trans h.size k.size, fun i hi hn => (k.block i (Nat.lt_of_lt_of_le hi h.size) (hz i hi hn)).trans (h.block i hi hn)⟩
theorem keeps_set {Z : Nat → Prop} (w : World) {a : Addr} (v : Value) (h : ¬ Z a.block) : Keeps Z w (w.setCell a v) :=
  ⟨rfl, rfl, rfl, by simp [World.setCell], fun k _ hk => Below.heap_setCell _ _ _ _ (fun e => h (e ▸ hk))⟩
theorem of_it (D : List Nat) (v : Value) (zs : List Int) (w : World) (hr : ReadsD w D v zs) (hlen : zs.length ≤ 140737488351232) :
    Calls Try.prog 30 #[v] w fun e w' => (∃ f, e = .returned f ∧ It w' (w.heap.size :: D) f zs) ∧ Fr [] w w' := by
  obtain ⟨_, a, c, rfl, _, _⟩ := id hr.rd
  have FIN : Hid (∀ W, W = w.alloc (.cells #[.slice a zs.length c] 33) → It W (w.heap.size :: D) (.func (.func 67) #[] #[.pointer (some ⟨w.heap.size, 0, none⟩)]) zs ∧ Fr [] w W) := Lib.hid (fun W hW => by
    have F : Fr [] w W := by rw [hW]; exact (Fr.refl _ _).alloc _
    have B : Blk W w.heap.size [.slice a zs.length c] 33 := by rw [hW]; exact Blk.new w _ _
    have R := hr.fr0 F
    refine ⟨⟨_, _, rfl, enters_of Try.func67 (by kernel_rfl) rfl, ?_, fun w' O0 h1 h2 h3 h4 => of_stops _ 0 D _ zs W w' O0 B R hlen h1 h2 h3 h4⟩, F⟩
    intro b hb
    rcases List.mem_cons.1 hb with rfl | hb
    · exact B.lt
    · exact R.lt b hb)
  clear hr
  go_enter Try.func30, Try.ntmps30
  go_wp2
  go_ret
  obtain ⟨h1, h2⟩ := FIN.out _ rfl
  exact ⟨⟨_, rfl, h1⟩, h2⟩

theorem count_nil (w : World) : Calls Try.prog 34 #[.nilFunc] w fun e w' => e = .returned (.int .i64 0) ∧ Fr [] w w' := by
  refine calls_marks Try.func34 rfl ?_
  simp only [Try.ntmps34, List.size_toArray, List.length_cons, List.length_nil, Nat.reduceAdd, Nat.reduceSub, Array.replicate_succ, Array.replicate_zero, List.push_toArray, List.append_toArray, List.nil_append, List.cons_append]
  go_wp2
  refine leaves_plain (results_tmp rfl _ _ _) ?_
  exact ⟨rfl, (Fr.refl _ _).alloc _⟩

set_option maxHeartbeats 1000000 in
theorem count_it (D : List Nat) (f : Value) (xs : List Int) (w : World) (h : It w D f xs) (hx : xs.length ≤ 100000) :
    Calls Try.prog 34 #[f] w fun e w' => e = .returned (.int .i64 xs.length) ∧ Fr [] w w' := by
  obtain ⟨gf, lb, rfl, hent, hDs, hseq⟩ := h
  have HS := Lib.hid hseq
  have HD : Hid (∀ b ∈ D, b < w.heap.size) := hDs
  have HENT : Hid (∀ args w, (callFunc gf args).run Try.prog w = .ok (.enter gf args) w) := hent
  obtain ⟨n, hn⟩ : ∃ n, n = xs.length := ⟨_, rfl⟩
  rw [← hn] at hx
  rw [← hn]
  have HXN := Lib.hid hn
  clear hseq hDs hent hn
  refine calls_marks Try.func34 rfl ?_
  simp only [Try.ntmps34, List.size_toArray, List.length_cons, List.length_nil, Nat.reduceAdd, Nat.reduceSub, Array.replicate_succ, Array.replicate_zero, List.push_toArray, List.append_toArray, List.nil_append, List.cons_append]
  go_upto_region 2 with (fail)
  obtain ⟨B3, F3⟩ := new1 w [.int .i64 0] 3
  obtain ⟨wa, hwa⟩ : ∃ x : World, x = w.alloc (.cells #[.int .i64 0] 3) := ⟨_, rfl⟩
  rw [← hwa]
  rw [← hwa] at B3 F3
  obtain ⟨E, hE⟩ : ∃ E, E = w.heap.size := ⟨_, rfl⟩
  rw [← hE] at B3 ⊢
  have HE : Hid (w.heap.size ≤ E ∧ E < wa.heap.size ∧ ∀ b ∈ D, b ≠ E) := ⟨by omega, B3.lt, fun b hb => by have := HD.out b hb; omega⟩
  have HB := Lib.hid B3
  have HF := Lib.hid F3
  clear hwa hE B3 F3
  go_upto_block 0 with (fail)
  refine' wp_loop_block (w0 := wa) (O0 := fun b => b = E) (T := []) rfl HENT.out (HS.out wa _ HF.out.size (fun b hb => HF.out.block b (HD.out b hb) (by simp)) (fun b hb => by rw [hb]; exact HE.out.2.1) (fun b hb => HE.out.2.2 b hb))
    (fun b hb => by rw [hb]; exact HE.out.2.1) (by simp) (Below.refl _ _) (by intro x; rfl)
    (fun pre O W => Fr [E] wa W ∧ Blk W E [.int .i64 pre.length] 3 ∧ O E) (fun _ _ _ _ => False)
    (fun s O W W' h hk => ⟨fr_keeps h.1 hk (fun k h1 _ => .inr ⟨h1, by simp⟩), h.2.1.keeps hk (.inl h.2.2), h.2.2⟩) (fun _ _ _ _ _ h _ => h)
    ⟨Fr.refl _ _, HB.out, rfl⟩ (fun s W W' h _ => h) (fun s W W' h _ => h)
    (fun D W => wa.heap.size ≤ D ∧ Fr [E] wa W ∧ Blk W E [.int .i64 n] 3 ∧ W.heap[D]? = some (.deferred (some []))) _ ?assign ?body ?done ?stop ?tail
  case assign =>
    intro l x W K hK
    gi_wp2
    exact hK
  case body =>
    rintro l pre x O W ⟨hF, hB, hO⟩ hlt hsz hOW
    rw [← HXN.out] at hlt
    have hcE := hB.cell_at (o := 0) rfl
    have hfE := hB.thawed 0
    have hw : IntKind.i64.wrap ((pre.length : Int) + 1) = (pre.length : Int) + 1 := IntWalk.i64_in _ (by omega)
    have FN : Hid (∀ V, V = W.setCell ⟨E, 0, none⟩ (.int .i64 ((pre.length : Int) + 1)) → Keeps (fun k => ¬ O k) W V ∧ Fr [E] wa V ∧ Blk V E [.int .i64 (pre ++ [x]).length] 3 ∧ grow O W V E) := Lib.hid (fun V hV => by
      rw [hV]
      refine ⟨keeps_set _ _ (by simpa using hO), hF.set (by simp) _, ?_, .inl hO⟩
      rw [List.length_append, List.length_singleton]
      exact hB.set 0 _)
    clear hF hB hO hOW
    generalize pre.length = k at *
    gi_wp2
    exact FN.out _ rfl
  case done =>
    rintro D ys O W ⟨hD, hnO⟩ rfl ⟨hF, hB, hO⟩ hK
    rw [← HXN.out] at hB
    exact ⟨hD, hF, hB, hK⟩
  case stop =>
    rintro D c pre O W ⟨hD, hnO⟩ hSp h hK
    exact h.elim
  case tail =>
    rintro D W ⟨hD, hF, hB, hK⟩
    have cE := hB.cell_at (o := 0) rfl
    have HFW := Lib.hid ((HF.out.trans hF (by have := HE.out.1; simp; omega)).taken (D := D) (by have := HF.out.size; omega) (.deferred none))
    have HK := Lib.hid hK
    clear hF hB hK
    go_wp2
    exact leaves_loop HK.out (results_tmp rfl _ _ _) ⟨rfl, HFW.out⟩

/-- what has been collected so far, in the box behind L -/
structure Col (w : World) (L : Nat) (n : Int) (xs pre : List Int) (O : Nat → Prop) (W : World) : Prop where
  out : ∃ u, Blk W (L + 1) [u] 33 ∧ View W w.heap.size 3 1 u pre.length (pre.map (Value.int .i64)) ∧ ∀ g, u.ownBlock = some g → O g ∧ g ≠ L + 1
  num : Blk W L [.int .i64 n] 3
  fr : Fr [] w W
  own : O (L + 1)
  not : ¬ O L
theorem Col.keeps {w wa : World} {L : Nat} {n : Int} {xs pre : List Int} {D : List Nat} {O : Nat → Prop} {W W' : World} (h : Col w L n xs pre O W) (hE : w.heap.size ≤ L ∧ L + 1 < wa.heap.size ∧ ∀ b ∈ D, b ≠ L + 1) (hF : Fr [] w wa)
    (hk : Keeps (fun k => O k ∨ (k < wa.heap.size ∧ k ∉ [])) W W') : Col w L n xs pre O W' := by
  obtain ⟨⟨u, h1, h2, h3⟩, h4, h5, h6, h7⟩ := h
  have hs := hF.size
  exact ⟨⟨u, h1.keeps hk (.inl h6), h2.keeps (fun g hg => hk.block g (h2.lt hg).2 (.inl (h3 g hg).1)), h3⟩, h4.keeps hk (.inr ⟨by omega, by simp⟩), fr_keeps h5 hk (fun k h _ => .inr ⟨by omega, by simp⟩), h6, h7⟩
/-- nothing is told where there is none, or none is asked for -/
theorem some_none (f : Value) (n : Int) (w : World) (h : f = .nilFunc ∨ (n ≤ 0 ∧ ∃ gf lb, f = .func (.func gf) #[] lb)) :
    Calls Try.prog 35 #[f, .int .i64 n] w fun e w' => e = .returned (.slice none 0 0) ∧ Fr [] w w' := by
  have F2 := Lib.hid (((Fr.refl [] w).alloc (.cells #[.int .i64 n] 3)).alloc (.cells #[.slice none 0 0] 33))
  rcases h with rfl | ⟨hn, gf, lb, rfl⟩
  · refine calls_marks Try.func35 rfl ?_
    simp only [Try.ntmps35, List.size_toArray, List.length_cons, List.length_nil, Nat.reduceAdd, Nat.reduceSub, Array.replicate_succ, Array.replicate_zero, List.push_toArray, List.append_toArray, List.nil_append, List.cons_append]
    go_wp2
    refine leaves_plain (results_tmp rfl _ _ _) ?_
    exact ⟨rfl, F2.out⟩
  · have hd : decide (n ≤ 0) = true := decide_eq_true hn
    refine calls_marks Try.func35 rfl ?_
    simp only [Try.ntmps35, List.size_toArray, List.length_cons, List.length_nil, Nat.reduceAdd, Nat.reduceSub, Array.replicate_succ, Array.replicate_zero, List.push_toArray, List.append_toArray, List.nil_append, List.cons_append]
    go_wp2
    refine leaves_plain (results_tmp rfl _ _ _) ?_
    exact ⟨rfl, F2.out⟩

set_option maxHeartbeats 2000000 in
theorem some_it (D : List Nat) (f : Value) (xs : List Int) (n : Int) (m : Nat) (hm : (m : Int) = min n xs.length) (w : World) (h : It w D f xs) (hn : 0 < n) (hn2 : n ≤ 9223372036854775807) (hx : xs.length ≤ 100000) :
    Calls Try.prog 35 #[f, .int .i64 n] w fun e w' => (∃ a c, e = .returned (.slice a m c) ∧ View w' w.heap.size 3 1 (.slice a m c) m ((xs.take m).map (Value.int .i64))) ∧ Fr [] w w' := by
  obtain ⟨gf, lb, rfl, hent, hDs, hseq⟩ := h
  obtain ⟨i0, hi0, hz0, hz1, hz2⟩ := info_parts info_int
  have HS := Lib.hid hseq
  have HD : Hid (∀ b ∈ D, b < w.heap.size) := hDs
  have HENT : Hid (∀ args w, (callFunc gf args).run Try.prog w = .ok (.enter gf args) w) := hent
  have HM : Hid ((m : Int) = min n xs.length) := hm
  have hdn : decide (n ≤ 0) = false := decide_eq_false (by omega)
  have hm2 : m ≤ 100000 := by omega
  clear hseq hDs hent hm
  refine calls_marks Try.func35 rfl ?_
  simp only [Try.ntmps35, List.size_toArray, List.length_cons, List.length_nil, Nat.reduceAdd, Nat.reduceSub, Array.replicate_succ, Array.replicate_zero, List.push_toArray, List.append_toArray, List.nil_append, List.cons_append]
  go_upto_region 2 with (fail)
  obtain ⟨B3, B5, F3⟩ := new2 w [.int .i64 n] 3 [.slice none 0 0] 33
  obtain ⟨wa, hwa⟩ : ∃ x : World, x = (w.alloc (.cells #[.int .i64 n] 3)).alloc (.cells #[.slice none 0 0] 33) := ⟨_, rfl⟩
  rw [← hwa]
  rw [← hwa] at B3 B5 F3
  obtain ⟨L, hL⟩ : ∃ L, L = w.heap.size := ⟨_, rfl⟩
  rw [← hL] at B3 B5 ⊢
  have HE : Hid (w.heap.size ≤ L ∧ L + 1 < wa.heap.size ∧ ∀ b ∈ D, b ≠ L + 1) := ⟨by omega, B5.lt, fun b hb => by have := HD.out b hb; omega⟩
  have HB3 := Lib.hid B3
  have HB5 := Lib.hid B5
  have HF := Lib.hid F3
  have hcn := B3.cell_at (o := 0) rfl
  have HLE : Hid (L = w.heap.size) := hL
  clear hwa hL B3 B5 F3
  go_upto_block 0 with (fail)
  refine' wp_loop_block (w0 := wa) (O0 := fun b => b = L + 1) (T := []) rfl HENT.out (HS.out wa _ HF.out.size (fun b hb => HF.out.block b (HD.out b hb) (by simp)) (fun b hb => by rw [hb]; exact HE.out.2.1) (fun b hb => HE.out.2.2 b hb))
    (fun b hb => by rw [hb]; exact HE.out.2.1) (by simp) (Below.refl _ _) (by intro x; rfl)
    (fun pre O W => Col w L n xs pre O W ∧ (pre.length : Int) < n) (fun c pre O W => c = .exit 0 ∧ Col w L n xs pre O W ∧ (pre.length : Int) = n)
    (fun s O W W' h hk => ⟨h.1.keeps HE.out HF.out hk, h.2⟩) (fun c s O W W' h hk => ⟨h.1, h.2.1.keeps HE.out HF.out hk, h.2.2⟩)
    ⟨⟨⟨.slice none 0 0, HB5.out, View.nil _ _ _ _, fun g hg => by cases hg⟩, HB3.out, HF.out, rfl, by omega⟩, by simpa using hn⟩ (fun s W W' h _ => h) (fun s W W' h _ => h)
    (fun D W => wa.heap.size ≤ D ∧ (∃ O, Col w L n xs (xs.take m) O W) ∧ W.heap[D]? = some (.deferred (some []))) _ ?assign ?body ?done ?stop ?tail
  case assign =>
    intro l x W K hK
    gi_wp2
    exact hK
  case body =>
    rintro l pre x O W ⟨hC, hlt2⟩ hlt hsz hOW
    obtain ⟨⟨u, hu, hV, hown⟩, hN, hF, hO, hNO⟩ := hC
    obtain ⟨ua, uc, rfl⟩ := hV.form
    obtain ⟨k, hk⟩ : ∃ k, k = pre.length := ⟨_, rfl⟩
    rw [← hk] at hlt hlt2 hV hown hu
    have hcu := hu.cell_at (o := 0) rfl
    have hkx : k ≤ 100000 := by omega
    have HU := Lib.hid hu
    have HV := Lib.hid hV
    have HOWN : Hid (∀ g, (Value.slice ua k uc).ownBlock = some g → O g ∧ g ≠ L + 1) := hown
    have HN := Lib.hid hN
    have HFW := Lib.hid hF
    have HO := Lib.hid hO
    have HNO : Hid (¬ O L) := hNO
    have HK := Lib.hid hk
    have hBs : w.heap.size ≤ W.heap.size := hF.size
    have HLT := Lib.hid hlt
    clear hu hV hown hN hF hO hNO hk hOW hlt
    have FIN : Hid (∀ (V5 : World) (a5 : Option Addr) (c5 : Nat), View V5 w.heap.size 3 1 (.slice a5 (k + 1) c5) (k + 1) (pre.map (Value.int .i64) ++ [.int .i64 x]) → (W.alloc (.cells #[.int .i64 x] 3)).grownBy V5 (Value.slice ua k uc).ownBlock →
        ((Value.slice a5 (k + 1) c5).ownBlock = (Value.slice ua k uc).ownBlock ∨ (Value.slice a5 (k + 1) c5).ownBlock = some (W.alloc (.cells #[.int .i64 x] 3)).heap.size) →
        Blk V5 (L + 1) [.slice ua k uc] 33 ∧ Blk V5 L [.int .i64 n] 3 ∧
        ∀ V, V = V5.setCell ⟨L + 1, 0, none⟩ (.slice a5 (k + 1) c5) → Keeps (fun k => ¬ O k) W V ∧ Col w L n xs (pre ++ [x]) (grow O W V) V) := Lib.hid (by
      intro V5 a5 c5 h5 hg ho
      have f1 : Fr [] W (W.alloc (.cells #[.int .i64 x] 3)) := (Fr.refl _ _).alloc _
      have gne : ∀ g, (Value.slice ua k uc).ownBlock = some g → g ≠ L + 1 ∧ g ≠ L := fun g hgg => ⟨(HOWN.out g hgg).2, fun e => by
        subst e
        exact HNO.out (HOWN.out _ hgg).1⟩
      have b1 : Blk V5 (L + 1) [.slice ua k uc] 33 := (hg.block _ (by simp; have := HU.out.lt; omega) (fun e => (gne _ e.symm).1 rfl)).trans (HU.out.fr f1 (by simp))
      have b2 : Blk V5 L [.int .i64 n] 3 := (hg.block _ (by simp; have := HN.out.lt; omega) (fun e => (gne _ e.symm).2 rfl)).trans (HN.out.fr f1 (by simp))
      refine ⟨b1, b2, fun V hV => ?_⟩
      have hz5 := hg.size
      simp at hz5
      have hzV : V.heap.size = V5.heap.size := by rw [hV]; simp [World.setCell]
      have ownn : ∀ g, (Value.slice a5 (k + 1) c5).ownBlock = some g → grow O W V g ∧ g ≠ L + 1 := fun g hgg => by
        rcases ho with ho | ho
        · rw [ho] at hgg; exact ⟨.inl (HOWN.out g hgg).1, (HOWN.out g hgg).2⟩
        · rw [ho] at hgg
          simp at hgg
          have := (h5.lt (g := g) (by rw [ho]; simp; omega)).2
          have := HU.out.lt
          exact ⟨.inr ⟨by omega, by omega⟩, by omega⟩
      refine ⟨?_, ⟨⟨.slice a5 (k + 1) c5, ?_, ?_, ownn⟩, ?_, ?_, .inl HO.out, fun h => h.elim HNO.out (fun h => by have := HN.out.lt; omega)⟩⟩
      · rw [hV]
        refine ⟨hg.os, hg.tape, hg.output, by simp [World.setCell]; omega, fun j hj hn => ?_⟩
        refine (Below.heap_setCell V5 ⟨L + 1, 0, none⟩ (.slice a5 (k + 1) c5) j (fun e => hn (by have e2 : j = L + 1 := e; rw [e2]; exact HO.out))).trans ((hg.block j (by simp; omega) (fun e => hn (HOWN.out j e.symm).1)).trans (Below.heap_alloc _ _ _ hj))
      · rw [hV]; exact b1.set 0 _
      · rw [hV, List.length_append, List.length_singleton, ← HK.out, List.map_append]
        exact h5.keeps (fun g hgg => Below.heap_setCell _ _ _ _ (ownn g hgg).2)
      · rw [hV]; exact b2.set_ne (by simp) _
      · rw [hV]
        exact ((HFW.out.trans0 f1).grown hg (fun g hgg => .inr (HV.out.lt hgg).1)).set (.inr (by simp; have := HE.out.1; omega)) _)
    have hne1 : ¬ L = L + 1 := by omega
    have HLN : Hid ((pre ++ [x]).length = k + 1) := by rw [List.length_append, List.length_singleton, ← HK.out]; exact Lib.hid rfl
    by_cases hgt : (k : Int) + 1 = n
    · have hd1 : decide (n ≤ (k : Int) + 1) = true := decide_eq_true (by omega)
      have HG := Lib.hid hgt
      clear hgt
      gi_wp2_with (first | (gi_at_builtin; refine wpListIn_append_view _ rfl (.tmp 15) (.tmp 17) 33 rfl w.heap.size 3 i0 (.int .i64 0) 1 8 Try.underlying33 hi0 hz0 hz1 hz2 rfl _ _ _ _ rfl (HV.out.alloc _) _ 1 [.int .i64 x] rfl (reads_one _ _ _) (by simp [Value.oneCell']) (by unfold maxLen; omega) (by omega) (by simp; omega) ?_; intro a5 c5 w5 hv5 hg5 ho5; obtain ⟨hb1, hb2, hfin⟩ := FIN.out _ _ _ hv5 hg5 ho5; have hc1 := hb1.cell_at (o := 0) rfl; have hf1 := hb1.thawed 0; have hc2 := hb2.cell_at (o := 0) rfl; have HFIN : Hid (∀ V, V = w5.setCell ⟨L + 1, 0, none⟩ (.slice a5 (k + 1) c5) → Keeps (fun k => ¬ O k) W V ∧ Col w L n xs (pre ++ [x]) (grow O W V) V) := hfin; clear hfin hb1 hb2 hv5 hg5 ho5))
      obtain ⟨h1, h2⟩ := HFIN.out _ rfl
      exact ⟨h1, rfl, h2, by rw [HLN.out]; have := HG.out; omega⟩
    · have hd1 : decide (n ≤ (k : Int) + 1) = false := decide_eq_false (by omega)
      have HG := Lib.hid hgt
      clear hgt
      gi_wp2_with (first | (gi_at_builtin; refine wpListIn_append_view _ rfl (.tmp 15) (.tmp 17) 33 rfl w.heap.size 3 i0 (.int .i64 0) 1 8 Try.underlying33 hi0 hz0 hz1 hz2 rfl _ _ _ _ rfl (HV.out.alloc _) _ 1 [.int .i64 x] rfl (reads_one _ _ _) (by simp [Value.oneCell']) (by unfold maxLen; omega) (by omega) (by simp; omega) ?_; intro a5 c5 w5 hv5 hg5 ho5; obtain ⟨hb1, hb2, hfin⟩ := FIN.out _ _ _ hv5 hg5 ho5; have hc1 := hb1.cell_at (o := 0) rfl; have hf1 := hb1.thawed 0; have hc2 := hb2.cell_at (o := 0) rfl; have HFIN : Hid (∀ V, V = w5.setCell ⟨L + 1, 0, none⟩ (.slice a5 (k + 1) c5) → Keeps (fun k => ¬ O k) W V ∧ Col w L n xs (pre ++ [x]) (grow O W V) V) := hfin; clear hfin hb1 hb2 hv5 hg5 ho5))
      obtain ⟨h1, h2⟩ := HFIN.out _ rfl
      exact ⟨h1, h2, by rw [HLN.out]; have := HG.out; omega⟩
  case done =>
    rintro D ys O W ⟨hD, hnO⟩ rfl ⟨hC, hlt⟩ hK
    refine ⟨hD, ⟨O, ?_⟩, hK⟩
    rw [List.take_of_length_le (by have := HM.out; omega)]
    exact hC
  case stop =>
    rintro D c pre O W ⟨hD, hnO⟩ hSp ⟨rfl, hC, hlt⟩ hK
    refine .inl ⟨rfl, hD, ⟨O, ?_⟩, hK⟩
    have hle := hSp.length_le
    rw [List.prefix_iff_eq_take.1 hSp] at hC
    rw [show m = pre.length by have := HM.out; omega]
    exact hC
  case tail =>
    rintro D W ⟨hD, ⟨O, hC⟩, hK⟩
    obtain ⟨⟨u, hu, hV, hown⟩, hN, hF, hO, hNO⟩ := hC
    obtain ⟨ua, uc, rfl⟩ := hV.form
    have hml : (xs.take m).length = m := by rw [List.length_take]; have := HM.out; omega
    rw [hml] at hV hu
    have cE := hu.cell_at (o := 0) rfl
    have HFW := Lib.hid (hF.taken (D := D) (by have := HF.out.size; omega) (.deferred none))
    have HVW := Lib.hid (hV.taken hK (.deferred none))
    have HK := Lib.hid hK
    clear hu hV hown hN hF hO hNO hK
    go_wp2
    exact leaves_loop HK.out (results_tmp rfl _ _ _) ⟨⟨_, _, rfl, HVW.out⟩, HFW.out⟩
end Go.Proofs.Ytcnoaflojojfkab.Seqs
