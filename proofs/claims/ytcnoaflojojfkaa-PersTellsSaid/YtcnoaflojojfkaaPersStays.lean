/- PersStays: what is put to a chain leaves it as it is; chains that go on from one share nothing that shows: the walk of the law. No condition. -/
import Derived.Test.YtcnoaflojojfkaaPersList
import Derived.Test.YtcnoaflojojfkaaSteps
namespace Go.Proofs.Ytcnoaflojojfkaa.Pers
open Go.RowKit Go.Shelf
set_option linter.unusedVariables false
set_option linter.unusedSimpArgs false
set_option maxRecDepth 100000
attribute [local go_sem] Oper.semAt_some

theorem reads_lit2 (w : World) (x y : Int) : Reads (w.alloc (.cells #[.int .i64 x, .int .i64 y] 3)) 1 (.slice (some ⟨w.heap.size, 0, none⟩) 2 2) 2 ([x, y].map (Value.int .i64)) :=
  (View.of_blk (B := 0) (Blk.new w [.int .i64 x, .int .i64 y] 3) (Nat.zero_le _) rfl (by decide)).reads

set_option maxHeartbeats 1000000 in
theorem awake_any (w : World) : Calls Try.prog 32 #[] w fun e w' => e = .returned (.bool true) ∧ Fr [] w w' := by
  have HR0 := Lib.hid (reads_lit2 w 1 2)
  have HF0 : Hid (Fr [] w (w.alloc (.cells #[.int .i64 1, .int .i64 2] 3))) := (Fr.refl _ _).alloc _
  go_enter Try.func32, Try.ntmps32
  go_wp2_with fail
  refine (of_any _ [1, 2] _ HR0.out (by simp)).mono ?_
  rintro e w1 ⟨⟨p, rfl, hc⟩, hf⟩
  have HC : Hid (IsCh _ _ w1 [2, 1] p) := hc
  have HF := Lib.hid (HF0.out.trans0 hf)
  clear hc hf
  go_wp2_with (first | (go_at_call 39; refine (newest_some _ _ 2 [1] p _ HC.out).mono ?_; rintro e w' ⟨rfl, rfl⟩) | (go_at_call 40; refine (rest_any _ _ [2, 1] p _ HC.out).mono ?_; rintro e w' ⟨⟨q, rfl, hq⟩, rfl⟩; have HQ := Lib.hid hq; clear hq) | (go_at_call 37; first | (refine (len_any _ _ [2, 1] p _ HC.out).mono ?_; rintro e w' ⟨rfl, rfl⟩) | (refine (len_any _ _ [1] _ _ HQ.out).mono ?_; rintro e w' ⟨rfl, rfl⟩)))
  go_ret
  exact ⟨rfl, HF.out⟩

theorem list_n (lo hi : Nat) (xs : List Int) (p : Option Addr) (w : World) (n : Nat) (hn : xs.length = n) (h : IsCh lo hi w xs p) (hhi : hi ≤ w.heap.size) (hm : n ≤ 1000000) :
    Calls Try.prog 36 #[.pointer p] w fun e w' => (∃ g, e = .returned (.slice (some ⟨g, 0, none⟩) n n) ∧ Reads w' 1 (.slice (some ⟨g, 0, none⟩) n n) n (xs.reverse.map (Value.int .i64))) ∧ Fr [] w w' := by
  subst hn
  refine (list_any lo hi xs p w h hhi hm).mono ?_
  rintro e w' ⟨⟨g, he, hg, hb⟩, hf⟩
  exact ⟨⟨g, he, (View.of_blk (B := 0) hb (Nat.zero_le _) (by simp) (by unfold maxLen; omega)).reads⟩, hf⟩
theorem len_n (lo hi : Nat) (xs : List Int) (p : Option Addr) (w : World) (n : Nat) (hn : xs.length = n) (h : IsCh lo hi w xs p) :
    Calls Try.prog 37 #[.pointer p] w fun e w' => e = .returned (.int .i64 n) ∧ w = w' := by
  subst hn
  exact len_any lo hi xs p w h
theorem same_true (va vb : Value) (za zb : List Int) (w : World) (n : Nat) (ha : Reads w 1 va n (za.map (Value.int .i64))) (hb : Reads w 1 vb n (zb.map (Value.int .i64))) (he : za = zb) (hn : n ≤ 1000000) :
    Calls Try.prog 35 #[va, vb] w fun e w' => e = .returned (.bool true) ∧ Fr [] w w' := by
  obtain rfl := len_reads ha
  subst he
  refine (same_any va vb za za w ha hb (by omega)).mono ?_
  rintro e w' ⟨he, k, hk⟩
  exact ⟨by rw [he]; simp, Fr.of_drewN hk⟩
theorem ones (l : List Int) : ∀ u ∈ l.map (Value.int .i64), u.oneCell' = true := by
  intro u hu
  obtain ⟨x, _, rfl⟩ := List.mem_map.1 hu
  rfl
theorem view_made0 (w : World) (t : TypeId) (B : Nat) (h : B ≤ w.heap.size) : View ((w.drew).alloc (.cells #[] t)) B t 1 (.slice (some ⟨w.heap.size, 0, none⟩) 0 0) 0 [] :=
  View.of_blk (Blk.new w.drew [] t) h rfl (by decide)
theorem made_fr {w wd : World} {t : TypeId} (h : Fr [] w wd) : Fr [] w ((wd.drew).alloc (.cells #[] t)) := h.drew.alloc _
theorem made_le {w wd : World} {t : TypeId} (h : Fr [] w wd) : w.heap.size ≤ ((wd.drew).alloc (.cells #[] t)).heap.size := (made_fr h).size
theorem made_grown {w wd w5 : World} {t : TypeId} (h : Fr [] w wd) (hg : ((wd.drew).alloc (.cells #[] t)).grownBy w5 (Value.slice (some ⟨wd.heap.size, 0, none⟩) 0 0).ownBlock) : Fr [] w w5 :=
  (made_fr h).grown hg (fun k hk => by simp [Value.ownBlock] at hk; subst hk; exact .inr h.size)
theorem made_own {w wd w5 : World} {t : TypeId} {a5 : Option Addr} {c5 n : Nat} (h : Fr [] w wd) (hg : ((wd.drew).alloc (.cells #[] t)).grownBy w5 (Value.slice (some ⟨wd.heap.size, 0, none⟩) 0 0).ownBlock)
    (ho : (Value.slice a5 n c5).ownBlock = (Value.slice (some ⟨wd.heap.size, 0, none⟩) 0 0).ownBlock ∨ (Value.slice a5 n c5).ownBlock = some ((wd.drew).alloc (.cells #[] t)).heap.size) {g : Nat} (hgg : (Value.slice a5 n c5).ownBlock = some g) : w.heap.size ≤ g := by
  have hs := h.size
  rcases ho with ho | ho
  · rw [ho] at hgg; simp [Value.ownBlock] at hgg; omega
  · rw [ho] at hgg; simp at hgg; omega
theorem view_grown {w w5 w6 : World} {e : TypeId} {v : Value} {n : Nat} {xs : List Value} (h : Fr [] w w5) (hv : View w5 w.heap.size e 1 v n xs) (hg : w5.grownBy w6 v.ownBlock) : Fr [] w w6 :=
  h.grown hg (fun k hk => .inr (hv.lt hk).1)

set_option maxHeartbeats 4000000 in
theorem stays_walk (zl : List Int) (vl : Value) {w : World} (hrl : Reads w 1 vl zl.length (zl.map (Value.int .i64))) (_wl : ∀ x ∈ zl, (Lit.int .i64 x).wf = true) (hll : zl.length * 8 ≤ 140737488351232)
    (za : List Int) (va : Value) (hra : Reads w 1 va za.length (za.map (Value.int .i64))) (_wa : ∀ x ∈ za, (Lit.int .i64 x).wf = true) (hla : za.length * 8 ≤ 140737488351232)
    (zb : List Int) (vb : Value) (hrb : Reads w 1 vb zb.length (zb.map (Value.int .i64))) (_wb : ∀ x ∈ zb, (Lit.int .i64 x).wf = true) (hlb : zb.length * 8 ≤ 140737488351232) :
    Calls Try.prog 7 #[vl, va, vb] w fun e w' => e = .returned (.bool true) ∧ Fr [] w w' := by
  obtain ⟨_, al, cl, rfl, hcl, _⟩ := id hrl
  obtain ⟨_, aa, ca, rfl, hca, _⟩ := id hra
  obtain ⟨_, ab, cb, rfl, hcb, _⟩ := id hrb
  have HL := Lib.hid hrl
  have HA := Lib.hid hra
  have HB := Lib.hid hrb
  clear hrl hra hrb _wl _wa _wb
  obtain ⟨kx, hkx⟩ : ∃ kx, kx = min zl.length 20 := ⟨_, rfl⟩
  have him : imin (zl.length : Int) 20 = (kx : Int) := by rw [imin_eq]; omega
  have hk1 : kx ≤ cl := by omega
  have hk2 : kx ≤ 20 := by omega
  have HKX := Lib.hid hkx
  clear hkx
  go_enter Try.func7, Try.ntmps7
  go_upto_region 4 with (first | (go_at_call 32; refine (awake_any _).mono ?_; rintro e w1 ⟨rfl, hf⟩; have HF1 := Lib.hid hf; clear hf))
  go_wp2_with fail
  refine (of_any _ (zl.take kx) _ (by have h := (HL.out.take1 kx (by have := HKX.out; omega)).fr0 HF1.out; rw [List.length_take, show min kx zl.length = kx by have := HKX.out; omega]; exact h) (by rw [List.length_take]; omega)).mono ?_
  rintro e w2 ⟨⟨p0, rfl, hc⟩, hf⟩
  have HF2 := Lib.hid (HF1.out.trans0 hf)
  have HC : Hid (IsCh w.heap.size w2.heap.size w2 (zl.take kx).reverse p0) := hc.wide HF1.out.size (Nat.le_refl _)
  clear hc hf
  go_upto_block 0 with (fail)
  go_cut [9, 11] (fun v9 v11 wc => ∃ (q : Option Addr), v9 = .pointer q ∧ IsCh w.heap.size wc.heap.size wc ((za.take (min za.length 10)).reverse ++ (zl.take kx).reverse) q ∧ Fr [] w2 wc)
  case first =>
    go_wp2_with fail
    go_loopw [9, 11] (fun v9 v11 wr => ∃ (k : Nat) (q : Option Addr), k ≤ za.length ∧ k ≤ 10 ∧ v11 = .int .i64 k ∧ v9 = .pointer q ∧ IsCh w.heap.size wr.heap.size wr ((za.take k).reverse ++ (zl.take kx).reverse) q ∧ Fr [] w2 wr) (fun _ v11 _ => za.length - (intOf v11).toNat)
    case atStart => exact ⟨0, p0, Nat.zero_le _, by omega, rfl, rfl, HC.out, Fr.refl _ _⟩
    case round =>
      obtain ⟨k, q, hk, hk10, rfl, rfl, hch, hf⟩ := hrel
      have HCr := Lib.hid hch
      have HFr := Lib.hid hf
      clear hch hf
      by_cases hlt : k < za.length
      · by_cases hlt10 : k < 10
        · have hd : decide ((k : Int) < 10) = true := decide_eq_true (by omega)
          obtain ⟨x, hx⟩ : ∃ x, za[k]? = some x := ⟨za[k], List.getElem?_eq_getElem _⟩
          obtain ⟨b1, o1, c1, e1, _, h1⟩ := at_reads (HA.out.fr0 (HF2.out.trans0 HFr.out)) hx
          simp only [Value.slice.injEq] at e1
          obtain ⟨rfl, _, rfl⟩ := e1
          have HX := Lib.hid hx
          clear hx
          have HLn : Hid (((za.take k).reverse ++ (zl.take kx).reverse).length ≤ 1000000) := by
            rw [List.length_append, List.length_reverse, List.length_reverse, List.length_take, List.length_take]; simp only [Hid]; omega
          go_wp2_with (first | (go_at_call 34; refine (with_any w.heap.size _ _ q x _ HCr.out (by have := HF2.out.size; have := HFr.out.size; omega) (Nat.le_refl _) HLn.out).mono ?_; rintro e w1 ⟨rfl, hc1, hf1⟩; have HC1 := Lib.hid hc1; have HFd := Lib.hid (HFr.out.trans0 hf1); clear hc1 hf1))
          go_roundw
          case rel => exact ⟨k + 1, _, by omega, by omega, by go_num, rfl, by rw [List.take_add_one, HX.out, List.reverse_append]; exact HC1.out, HFd.out⟩
          case measure => simp [intOf]; omega
        · have hd : decide ((k : Int) < 10) = false := decide_eq_false (by omega)
          have e : Hid (min za.length 10 = k) := Lib.hid (by omega)
          go_wp2
          go_meet
          case rel => exact ⟨q, rfl, by rw [e.out]; exact HCr.out, HFr.out⟩
      · have e : Hid (min za.length 10 = k ∨ za.length = k) := Lib.hid (by omega)
        have e2 : Hid ((za.take (min za.length 10)) = za.take k) := Lib.hid (by
          have hkk : k = za.length := by omega
          have h10 : za.length ≤ 10 := by omega
          rw [hkk, Nat.min_eq_left h10])
        go_wp2
        go_meet
        case rel => exact ⟨q, rfl, by rw [e2.out]; exact HCr.out, HFr.out⟩
  case rest =>
  obtain ⟨pa, rfl, hca', hfa⟩ := hcut
  rename World => wo
  have HPA := Lib.hid hca'
  have HFA := Lib.hid hfa
  clear hca' hfa
  have HF3 := Lib.hid (HF2.out.trans0 HFA.out)
  have HC1c : Hid (IsCh w.heap.size wo.heap.size wo (zl.take kx).reverse p0) := (HC.out.fr0 HFA.out).wide (Nat.le_refl _) HFA.out.size
  go_upto_block 2 with (fail)
  go_cut [10, 12] (fun v10 v12 wd => ∃ (q : Option Addr), v10 = .pointer q ∧ IsCh w.heap.size wd.heap.size wd ((zb.take (min zb.length 10)).reverse ++ (zl.take kx).reverse) q ∧ Fr [] wo wd)
  case first =>
    go_wp2_with fail
    go_loopw [10, 12] (fun v10 v12 wr => ∃ (k : Nat) (q : Option Addr), k ≤ zb.length ∧ k ≤ 10 ∧ v12 = .int .i64 k ∧ v10 = .pointer q ∧ IsCh w.heap.size wr.heap.size wr ((zb.take k).reverse ++ (zl.take kx).reverse) q ∧ Fr [] wo wr) (fun _ v12 _ => zb.length - (intOf v12).toNat)
    case atStart => exact ⟨0, p0, Nat.zero_le _, by omega, rfl, rfl, HC1c.out, Fr.refl _ _⟩
    case round =>
      obtain ⟨k, q, hk, hk10, rfl, rfl, hch, hf⟩ := hrel
      have HCr := Lib.hid hch
      have HFr := Lib.hid hf
      clear hch hf
      by_cases hlt : k < zb.length
      · by_cases hlt10 : k < 10
        · have hd : decide ((k : Int) < 10) = true := decide_eq_true (by omega)
          obtain ⟨x, hx⟩ : ∃ x, zb[k]? = some x := ⟨zb[k], List.getElem?_eq_getElem _⟩
          obtain ⟨b1, o1, c1, e1, _, h1⟩ := at_reads (HB.out.fr0 (HF3.out.trans0 HFr.out)) hx
          simp only [Value.slice.injEq] at e1
          obtain ⟨rfl, _, rfl⟩ := e1
          have HX := Lib.hid hx
          clear hx
          have HLn : Hid (((zb.take k).reverse ++ (zl.take kx).reverse).length ≤ 1000000) := by
            rw [List.length_append, List.length_reverse, List.length_reverse, List.length_take, List.length_take]; simp only [Hid]; omega
          go_wp2_with (first | (go_at_call 34; refine (with_any w.heap.size _ _ q x _ HCr.out (by have := HF3.out.size; have := HFr.out.size; omega) (Nat.le_refl _) HLn.out).mono ?_; rintro e w1 ⟨rfl, hc1, hf1⟩; have HC1 := Lib.hid hc1; have HFd := Lib.hid (HFr.out.trans0 hf1); clear hc1 hf1))
          go_roundw
          case rel => exact ⟨k + 1, _, by omega, by omega, by go_num, rfl, by rw [List.take_add_one, HX.out, List.reverse_append]; exact HC1.out, HFd.out⟩
          case measure => simp [intOf]; omega
        · have hd : decide ((k : Int) < 10) = false := decide_eq_false (by omega)
          have e : Hid (min zb.length 10 = k) := Lib.hid (by omega)
          go_wp2
          go_meet
          case rel => exact ⟨q, rfl, by rw [e.out]; exact HCr.out, HFr.out⟩
      · have e : Hid (min zb.length 10 = k ∨ zb.length = k) := Lib.hid (by omega)
        have e2 : Hid ((zb.take (min zb.length 10)) = zb.take k) := Lib.hid (by
          have hkk : k = zb.length := by omega
          have h10 : zb.length ≤ 10 := by omega
          rw [hkk, Nat.min_eq_left h10])
        go_wp2
        go_meet
        case rel => exact ⟨q, rfl, by rw [e2.out]; exact HCr.out, HFr.out⟩
  case rest =>
  obtain ⟨pb, rfl, hcb', hfb⟩ := hcut
  rename World => wd
  have HPB := Lib.hid hcb'
  have HFB := Lib.hid hfb
  clear hcb' hfb
  have HF4 := Lib.hid (HF3.out.trans0 HFB.out)
  have HPA4 : Hid (IsCh w.heap.size wd.heap.size wd ((za.take (min za.length 10)).reverse ++ (zl.take kx).reverse) pa) := (HPA.out.fr0 HFB.out).wide (Nat.le_refl _) HFB.out.size
  have HC4 : Hid (IsCh w.heap.size wd.heap.size wd (zl.take kx).reverse p0) := (HC1c.out.fr0 HFB.out).wide (Nat.le_refl _) HFB.out.size
  obtain ⟨ka, hka⟩ : ∃ ka, ka = min za.length 10 := ⟨_, rfl⟩
  obtain ⟨kb, hkb⟩ : ∃ kb, kb = min zb.length 10 := ⟨_, rfl⟩
  have hima : imin (za.length : Int) 10 = (ka : Int) := by rw [imin_eq]; omega
  have himb : imin (zb.length : Int) 10 = (kb : Int) := by rw [imin_eq]; omega
  have ha1 : ka ≤ ca := by omega
  have hb1 : kb ≤ cb := by omega
  have ha2 : ka ≤ 10 := by omega
  have ha3 : (0 : Int) ≤ (ka : Int) := by omega
  have ha4 : (ka : Int) ≤ (ca : Int) := by omega
  have hb3 : (0 : Int) ≤ (kb : Int) := by omega
  have hb4 : (kb : Int) ≤ (cb : Int) := by omega
  have hb2 : kb ≤ 10 := by omega
  have RX : Hid (∀ W, Fr [] w W → Reads W 1 (.slice al kx cl) kx ((zl.take kx).map (Value.int .i64))) := Lib.hid (fun W hW => (HL.out.take1 kx (by have := HKX.out; omega)).fr0 hW)
  have RA : Hid (∀ W, Fr [] w W → Reads W 1 (.slice aa ka ca) ka ((za.take ka).map (Value.int .i64))) := Lib.hid (fun W hW => (HA.out.take1 ka (by omega)).fr0 hW)
  have RB : Hid (∀ W, Fr [] w W → Reads W 1 (.slice ab kb cb) kb ((zb.take kb).map (Value.int .i64))) := Lib.hid (fun W hW => (HB.out.take1 kb (by omega)).fr0 hW)
  rw [← hka] at HPA4
  rw [← hkb] at HPB
  have HKA := Lib.hid hka
  have HKB := Lib.hid hkb
  clear hka hkb HPA HC1c HC
  obtain ⟨i0, hi0, hz0, hz1, hz2⟩ := info_parts info_int
  go_upto_region 14 with (fail)
  go_cut [13] (fun v wc => ∃ (a5 : Option Addr) (c5 : Nat), v = .slice a5 (kx + ka) c5 ∧ View wc w.heap.size 3 1 (.slice a5 (kx + ka) c5) (kx + ka) ((zl.take kx ++ za.take ka).map (Value.int .i64)) ∧ Fr [] wd wc)
  case first =>
    go_region_held3 (fun _ => True) (trivial) ((first | (refine step_append_view (o := ⟨some 60, _, _, _, _, _⟩) _ (by rfl) (.tmp 58) (.tmp 59) 35 (by rfl) w.heap.size 3 i0 (.int .i64 0) 1 8 Try.underlying35 hi0 hz0 hz1 hz2 rfl _ _ 0 [] (by rfl) (view_made0 _ _ _ HF4.out.size) _ kx _ (by rfl) (RX.out _ (made_fr HF4.out)) (ones _) (by unfold maxLen; omega) (by omega) (made_le HF4.out) ?_; intro a5 c5 w5 hv5 hg5 ho5; rw [Nat.zero_add] at hv5 ho5 ⊢) | (refine step_append_view (o := ⟨some 66, _, _, _, _, _⟩) _ (by rfl) (.tmp 60) (.tmp 65) 35 (by rfl) w.heap.size 3 i0 (.int .i64 0) 1 8 Try.underlying35 hi0 hz0 hz1 hz2 rfl _ _ _ _ (by rfl) hv5 _ ka _ (by rfl) (RA.out _ (made_grown HF4.out hg5)) (ones _) (by unfold maxLen; omega) (by omega) (by have := (made_grown HF4.out hg5).size; omega) ?_; intro a6 c6 w6 hv6 hg6 ho6)))
    all_goals
      go_wp2
      go_meet
      case rel =>
        have hs : Fr [] wd w6 := (made_grown (Fr.refl [] wd) hg5).grown hg6 (fun g hg => .inr (made_own (Fr.refl [] wd) hg5 ho5 hg))
        exact ⟨_, _, rfl, by simpa using hv6, hs⟩
  case rest =>
  obtain ⟨a13, c13, rfl, hv13, hf13⟩ := hcut
  rename World => we
  have HV13 := Lib.hid hv13
  have HF5 := Lib.hid (HF4.out.trans0 hf13)
  have HFde := Lib.hid hf13
  clear hv13 hf13
  go_upto_region 15 with (fail)
  go_cut [14] (fun v wc => ∃ (a5 : Option Addr) (c5 : Nat), v = .slice a5 (kx + kb) c5 ∧ View wc w.heap.size 3 1 (.slice a5 (kx + kb) c5) (kx + kb) ((zl.take kx ++ zb.take kb).map (Value.int .i64)) ∧ Fr [] we wc)
  case first =>
    go_region_held3 (fun _ => True) (trivial) ((first | (refine step_append_view (o := ⟨some 69, _, _, _, _, _⟩) _ (by rfl) (.tmp 67) (.tmp 68) 35 (by rfl) w.heap.size 3 i0 (.int .i64 0) 1 8 Try.underlying35 hi0 hz0 hz1 hz2 rfl _ _ 0 [] (by rfl) (view_made0 _ _ _ HF5.out.size) _ kx _ (by rfl) (RX.out _ (made_fr HF5.out)) (ones _) (by unfold maxLen; omega) (by omega) (made_le HF5.out) ?_; intro a5 c5 w5 hv5 hg5 ho5; rw [Nat.zero_add] at hv5 ho5 ⊢) | (refine step_append_view (o := ⟨some 75, _, _, _, _, _⟩) _ (by rfl) (.tmp 69) (.tmp 74) 35 (by rfl) w.heap.size 3 i0 (.int .i64 0) 1 8 Try.underlying35 hi0 hz0 hz1 hz2 rfl _ _ _ _ (by rfl) hv5 _ kb _ (by rfl) (RB.out _ (made_grown HF5.out hg5)) (ones _) (by unfold maxLen; omega) (by omega) (by have := (made_grown HF5.out hg5).size; omega) ?_; intro a6 c6 w6 hv6 hg6 ho6)))
    all_goals
      go_wp2
      go_meet
      case rel =>
        have hs : Fr [] we w6 := (made_grown (Fr.refl [] we) hg5).grown hg6 (fun g hg => .inr (made_own (Fr.refl [] we) hg5 ho5 hg))
        exact ⟨_, _, rfl, by simpa using hv6, hs⟩
  case rest =>
  obtain ⟨a14, c14, rfl, hv14, hf14⟩ := hcut
  rename World => wf
  have HV14 := Lib.hid hv14
  have HF6 := Lib.hid (HF5.out.trans0 hf14)
  have HFef := Lib.hid hf14
  clear hv14 hf14
  have HCf : Hid (IsCh w.heap.size wf.heap.size wf (zl.take kx).reverse p0) := (HC4.out.fr0 (HFde.out.trans0 HFef.out)).wide (Nat.le_refl _) (HFde.out.trans0 HFef.out).size
  have HPf : Hid (IsCh w.heap.size wf.heap.size wf ((za.take ka).reverse ++ (zl.take kx).reverse) pa) := (HPA4.out.fr0 (HFde.out.trans0 HFef.out)).wide (Nat.le_refl _) (HFde.out.trans0 HFef.out).size
  have HQf : Hid (IsCh w.heap.size wf.heap.size wf ((zb.take kb).reverse ++ (zl.take kx).reverse) pb) := (HPB.out.fr0 (HFde.out.trans0 HFef.out)).wide (Nat.le_refl _) (HFde.out.trans0 HFef.out).size
  have HV13f : Hid (View wf w.heap.size 3 1 (.slice a13 (kx + ka) c13) (kx + ka) ((zl.take kx ++ za.take ka).map (Value.int .i64))) := HV13.out.fr0 HFef.out
  have lx : (zl.take kx).reverse.length = kx := by rw [List.length_reverse, List.length_take]; have := HKX.out; omega
  have la : ((za.take ka).reverse ++ (zl.take kx).reverse).length = kx + ka := by rw [List.length_append, lx, List.length_reverse, List.length_take]; have := HKA.out; omega
  have lb : ((zb.take kb).reverse ++ (zl.take kx).reverse).length = kx + kb := by rw [List.length_append, lx, List.length_reverse, List.length_take]; have := HKB.out; omega
  have LX := Lib.hid lx
  have LA := Lib.hid la
  have LB := Lib.hid lb
  clear lx la lb HC4 HPA4 HPB HV13
  go_wp2_with fail
  refine (awake_any _).mono ?_
  rintro e w7 ⟨rfl, hf⟩
  have G7 : Hid (Fr [] wf w7) := hf
  clear hf
  go_wp2_with fail
  refine (list_n _ _ _ p0 _ kx LX.out (HCf.out.fr0 G7.out) G7.out.size (by omega)).mono ?_
  rintro e w8 ⟨⟨g1, rfl, hb⟩, hf⟩
  have G8 := Lib.hid (G7.out.trans0 hf)
  have R8 : Hid (Reads w8 1 (.slice (some ⟨g1, 0, none⟩) kx kx) kx ((zl.take kx).map (Value.int .i64))) := by rw [List.reverse_reverse] at hb; exact hb
  clear hb hf
  go_wp2_with fail
  refine (same_true _ _ _ _ _ kx R8.out (RX.out _ (HF6.out.trans0 G8.out)) rfl (by omega)).mono ?_
  rintro e w9 ⟨rfl, hf⟩
  have G9 := Lib.hid (G8.out.trans0 hf)
  clear hf
  go_wp2_with fail
  refine (list_n _ _ _ pa _ (kx + ka) LA.out (HPf.out.fr0 G9.out) G9.out.size (by omega)).mono ?_
  rintro e w10 ⟨⟨g2, rfl, hb⟩, hf⟩
  have G10 := Lib.hid (G9.out.trans0 hf)
  have R10 : Hid (Reads w10 1 (.slice (some ⟨g2, 0, none⟩) (kx + ka) (kx + ka)) (kx + ka) ((zl.take kx ++ za.take ka).map (Value.int .i64))) := by rw [List.reverse_append, List.reverse_reverse, List.reverse_reverse] at hb; exact hb
  clear hb hf
  go_wp2_with fail
  refine (same_true _ _ _ _ _ (kx + ka) R10.out (HV13f.out.fr0 G10.out).reads rfl (by omega)).mono ?_
  rintro e w11 ⟨rfl, hf⟩
  have G11 := Lib.hid (G10.out.trans0 hf)
  clear hf
  go_wp2_with fail
  refine (list_n _ _ _ pb _ (kx + kb) LB.out (HQf.out.fr0 G11.out) G11.out.size (by omega)).mono ?_
  rintro e w12 ⟨⟨g3, rfl, hb⟩, hf⟩
  have G12 := Lib.hid (G11.out.trans0 hf)
  have R12 : Hid (Reads w12 1 (.slice (some ⟨g3, 0, none⟩) (kx + kb) (kx + kb)) (kx + kb) ((zl.take kx ++ zb.take kb).map (Value.int .i64))) := by rw [List.reverse_append, List.reverse_reverse, List.reverse_reverse] at hb; exact hb
  clear hb hf
  go_wp2_with fail
  refine (same_true _ _ _ _ _ (kx + kb) R12.out (HV14.out.fr0 G12.out).reads rfl (by omega)).mono ?_
  rintro e w13 ⟨rfl, hf⟩
  have G13 := Lib.hid (G12.out.trans0 hf)
  clear hf
  go_wp2_with fail
  refine (len_n _ _ _ pa _ (kx + ka) LA.out (HPf.out.fr0 G13.out)).mono ?_
  rintro e w14 ⟨rfl, rfl⟩
  go_wp2_with fail
  refine (len_n _ _ _ p0 _ kx LX.out (HCf.out.fr0 G13.out)).mono ?_
  rintro e w15 ⟨rfl, rfl⟩
  by_cases hk0 : kx = 0
  · have h1 : decide ((0 : Int) < (kx : Int)) = false := decide_eq_false (by omega)
    have h2 : ((kx : Int) == 0) = true := by rw [beq_iff_eq]; omega
    have H0 := Lib.hid hk0
    clear hk0
    go_wp2
    go_ret
    exact ⟨rfl, HF6.out.trans0 G13.out⟩
  · have h1 : decide ((0 : Int) < (kx : Int)) = true := decide_eq_true (by omega)
    have H0 := Lib.hid hk0
    clear hk0
    go_wp2
    go_ret
    exact ⟨rfl, HF6.out.trans0 G13.out⟩
end Go.Proofs.Ytcnoaflojojfkaa.Pers
