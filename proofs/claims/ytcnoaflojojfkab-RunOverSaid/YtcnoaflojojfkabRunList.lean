/- pers.Chain at pairs, and at bound variables: the iterator and the list. No condition. -/
import Derived.Test.YtcnoaflojojfkabRunWith
import Derived.Test.YtcnoaflojojfkabLoopBox
namespace Go.Proofs.Ytcnoaflojojfkab.Rn
open Go.RowKit Go.Shelf Go.Proofs.Ytcnoaflojojfkab.Pat Go.Proofs.Ytcnoaflojojfkab.Qry Go.Proofs.Ytcnoaflojojfkab.Evt
set_option linter.unusedVariables false
set_option linter.unusedSimpArgs false
set_option maxRecDepth 100000
attribute [local go_sem] Oper.semAt_some
theorem made_recs {α : Type} {f : α → List Value} {s : Nat} (hf : ∀ a, (f a).length = s) (hs : 0 < s) (z : α) (zc : Array Value) (hz : zc.toList = f z) (n : Nat) : (madeCells zc (n * s)).toList = (List.replicate n z).flatMap f := by
  have hsz : zc.size = s := by rw [← hf z, ← hz]; simp
  apply List.ext_getElem?
  intro j
  by_cases hj : j < n * s
  · have hd : j / s < n := Nat.div_lt_of_lt_mul (by rwa [Nat.mul_comm] at hj)
    have hjs : j = (j / s) * s + j % s := (Nat.div_add_mod' j s).symm
    have hm : j % s < s := Nat.mod_lt _ hs
    have h2 : ((List.replicate n z).flatMap f)[j]? = (f z)[j % s]? := by
      conv => lhs; rw [hjs]
      exact recs_get hf (by simp [hd]) hm
    rw [h2, ← hz]
    simp [madeCells, hj, hsz, hm]
  · rw [List.getElem?_eq_none (by simp [madeCells]; omega), List.getElem?_eq_none (by rw [recs_len hf, List.length_replicate]; omega)]
theorem set_mid {A mid B : List Value} {n k : Nat} {v : Value} (hA : A.length = n) (hk : k < mid.length) : (A ++ (mid ++ B)).set (n + k) v = A ++ (mid.set k v ++ B) := by
  rw [List.set_append_right _ _ (by omega), hA, Nat.add_sub_cancel_left, List.set_append_left _ _ hk]
theorem set_mid0 {A mid B : List Value} {n : Nat} {v : Value} (hA : A.length = n) (hk : 0 < mid.length) : (A ++ (mid ++ B)).set n v = A ++ (mid.set 0 v ++ B) := set_mid (k := 0) hA hk
theorem get_mid {A mid B : List Value} {n k : Nat} {v : Value} (hA : A.length = n) (hv : mid[k]? = some v) : (A ++ (mid ++ B))[n + k]? = some v := by
  have hk := (List.getElem?_eq_some_iff.1 hv).1
  rw [List.getElem?_append_right (by omega), hA, Nat.add_sub_cancel_left, List.getElem?_append_left hk]; exact hv
theorem fr_low {O : Nat → Prop} {S : List Nat} {w W W' : World} (h : Fr S w W) (k : Keeps (fun k => O k ∨ (k < w.heap.size ∧ k ∉ [])) W W') : Fr S w W' :=
  ⟨k.os.trans h.os, k.tape.trans h.tape, k.output.trans h.output, Nat.le_trans h.size k.size, fun b hb hn => (k.block b (Nat.lt_of_lt_of_le hb h.size) (.inr ⟨hb, by simp⟩)).trans (h.block b hb hn)⟩
theorem ne_self_two (L : Nat) : ¬ L = L + 1 + 1 ∧ ¬ L + 1 = L + 1 + 1 := by omega

structure Pr where
  el : Int
  sq : Int
def Pr.cells (x : Pr) : List Value := [.int .i64 x.el, .int .i64 x.sq]
theorem Pr.len (x : Pr) : x.cells.length = 2 := rfl
/-- a chain in memory, the newest first; its blocks lie below hi -/
def IsPr (hi : Nat) (w : World) : List Pr → Option Addr → Prop
  | [], p => p = none
  | x :: r, p => ∃ b q, p = some ⟨b, 0, none⟩ ∧ b < hi ∧ Blk w b [.int .i64 x.el, .int .i64 x.sq, .pointer q, .int .i64 (r.length + 1 : Nat)] 145 ∧ IsPr hi w r q
theorem IsPr.keep {hi : Nat} {w w1 : World} : ∀ {xs : List Pr} {p : Option Addr}, IsPr hi w xs p → (∀ k, k < hi → k < w.heap.size → w1.heap[k]? = w.heap[k]?) → IsPr hi w1 xs p
  | [], _, h, _ => h
  | _ :: _, _, ⟨b, q, hp, h2, hb, hr⟩, hk => ⟨b, q, hp, h2, hb.of_eq (hk b h2 hb.lt), IsPr.keep hr hk⟩
theorem IsPr.fr0 {hi : Nat} {w w1 : World} {xs : List Pr} {p : Option Addr} (h : IsPr hi w xs p) (hf : Fr [] w w1) : IsPr hi w1 xs p :=
  h.keep fun k _ hk => hf.block k hk (by simp)
theorem IsPr.wide {hi hi' : Nat} {w : World} : ∀ {xs : List Pr} {p : Option Addr}, IsPr hi w xs p → hi ≤ hi' → IsPr hi' w xs p
  | [], _, h, _ => h
  | _ :: _, _, ⟨b, q, hp, h2, hb, hr⟩, hh => ⟨b, q, hp, by omega, hb, IsPr.wide hr hh⟩
/-- how long a chain is, read off the memory -/
def mu_pr (w : World) : Value → Nat
  | .pointer (some a) => match w.cell? ⟨a.block, 3, none⟩ with | some (.int _ n) => n.toNat | _ => 0
  | _ => 0
theorem IsPr.mu {hi : Nat} {w : World} {xs : List Pr} {p : Option Addr} (h : IsPr hi w xs p) : mu_pr w (.pointer p) = xs.length := by
  cases xs with
  | nil => have : p = none := h; subst this; rfl
  | cons x r =>
    obtain ⟨b, q, rfl, _, hb, _⟩ := h
    have := hb.cell_at (o := 3) rfl
    simp only [mu_pr, this]
    simp
theorem len_pr (hi : Nat) (xs : List Pr) (p : Option Addr) (w : World) (h : IsPr hi w xs p) :
    Calls Try.prog 94 #[.pointer p] w fun e w' => e = .returned (.int .i64 xs.length) ∧ w = w' := by
  cases xs with
  | nil =>
    have : p = none := h
    subst this
    go_enter Try.func94, Try.ntmps94
    go_wp2
    go_ret
    exact ⟨rfl, rfl⟩
  | cons x r =>
    obtain ⟨b, q, rfl, _, hb, _⟩ := h
    have h2 := hb.cell_at (o := 3) rfl
    clear hb
    rw [List.length_cons]
    generalize r.length + 1 = n at h2 ⊢
    go_enter Try.func94, Try.ntmps94
    go_wp2
    go_ret
    exact ⟨rfl, rfl⟩
theorem back_pr (p : Option Addr) (w : World) : Calls Try.prog 99 #[.pointer p] w fun e w' =>
    e = .returned (.func (.func 104) #[] #[.pointer (some ⟨w.heap.size, 0, none⟩)]) ∧ w' = w.alloc (.cells #[.pointer p] 70) := by
  go_enter Try.func99, Try.ntmps99
  go_wp2
  go_ret
  exact ⟨rfl, rfl⟩
set_option maxHeartbeats 2000000 in
theorem back_pr_T (hi B : Nat) (O0 : Nat → Prop) (xs : List Pr) (p : Option Addr) (w : World) (h : IsPr hi w xs p) (hhi : hi ≤ w.heap.size) (hB : Blk w B [.pointer p] 70)
    (hO : ∀ b, O0 b → hi ≤ b) (hBO : ¬ O0 B) :
    SeqT Try.prog 104 #[.pointer (some ⟨B, 0, none⟩)] (fun x : Pr => #[.agg #[.int .i64 x.el, .int .i64 x.sq]]) [] O0
      (fun ys _ => ys = xs) (fun pre _ => pre <+: xs) xs.length w := by
  intro l J Jx W hW hl1 hl2 hJ hJx hY h0
  have hR0 : IsPr hi W xs p := h.keep fun k _ hk => hW.block k hk
  have hB0 : Blk W B [.pointer p] 70 := (hW.block B hB.lt).trans hB
  have hsz : hi ≤ W.heap.size := Nat.le_trans hhi hW.size
  clear h hB hW
  have hY := Lib.hid hY
  have HR0 := Lib.hid hR0
  have qB := hB0.cell_at (o := 0) rfl
  have HO : Hid (∀ b, O0 b → hi ≤ b) := hO
  have HSZ : Hid (hi ≤ W.heap.size) := hsz
  clear hR0 hB0 hJ hJx hO hsz hhi hl1 hl2
  refine callsIn_of_wp Try.func104 rfl trivial ?_ rfl
  simp only [Try.ntmps104, List.size_toArray, List.length_cons, List.length_nil, Nat.reduceAdd, Nat.reduceSub, Array.replicate_succ, Array.replicate_zero, List.push_toArray, List.append_toArray, List.nil_append, List.cons_append]
  refine wpIn_wide.2 ?_
  go_wp2_with fail
  go_loopw [3] (fun v wr => ∃ (pre rest : List Pr) (q : Option Addr), v = .pointer q ∧ xs = pre ++ rest ∧ IsPr hi wr rest q ∧ (∃ O, J pre O wr ∧ ∀ b, O b → hi ≤ b) ∧ hi ≤ wr.heap.size) (fun v wr => mu_pr wr v)
  case atStart => exact ⟨[], xs, p, rfl, rfl, HR0.out, ⟨O0, h0, HO.out⟩, HSZ.out⟩
  case round =>
    obtain ⟨pre, rest, q, rfl, hx, hc, ⟨O, hJs, hO⟩, hK⟩ := hrel
    have HOb := Lib.hid hO
    have HX := Lib.hid hx
    have HC := Lib.hid hc
    have HK := Lib.hid hK
    have HJs := Lib.hid hJs
    clear hx hc hK hJs hO
    cases rest with
    | nil =>
      go_wp2_with (first | (go_at_call 94; refine (len_pr hi [] q _ HC.out).mono ?_; rintro e w' ⟨rfl, rfl⟩))
      go_end0
      exact ⟨⟨_, rfl⟩, .inl ⟨_, O, by rw [HX.out, List.append_nil], HJs.out⟩⟩
    | cons x r =>
      obtain ⟨b, q', rfl, hb2, hb, hr⟩ := HC.out
      have c0 := hb.cell_at (o := 0) rfl
      have c1 := hb.cell_at (o := 1) rfl
      have HBb := Lib.hid hb
      have HR := Lib.hid hr
      have hz : decide ((0 : Int) < ((r.length + 1 : Nat) : Int)) = true := decide_eq_true (by omega)
      have HLN : Hid (pre.length < xs.length) := by have := HX.out; rw [this]; simp [Hid]
      clear hb hr
      obtain ⟨fn, tmps, assign, body, hy, hR⟩ := hY.out _ x O wr HJs.out HLN.out
      have HRd := Lib.hid (hR.mono (R' := fun e W' => ∃ bb : Bool, e = .returned (.bool bb) ∧ ((bb = true ∧ J (pre ++ [x]) (grow O wr W') W' ∧ Keeps (fun k => ¬ O k) wr W') ∨ (bb = false ∧ Jx (pre ++ [x]) (grow O wr W') W')))
        (fun e W' h => by
          rcases h with ⟨rfl, h1, h2⟩ | ⟨rfl, h1, _⟩
          · exact ⟨true, rfl, .inl ⟨rfl, h1, h2⟩⟩
          · exact ⟨false, rfl, .inr ⟨rfl, h1⟩⟩))
      clear hR
      go_upto_region 3 with (first | (go_at_call 94; refine (len_pr hi (x :: r) _ _ HC.out).mono ?_; rintro e w' ⟨rfl, rfl⟩))
      refine (wpIn_wide (n := 8)).1 ?_
      gi_wp2
      refine HRd.out.mono ?_
      rintro e W' ⟨bb, rfl, hh⟩
      have HHh := Lib.hid hh
      clear hh
      gi_wp2
      rcases HHh.out with ⟨rfl, hJ', hK'⟩ | ⟨rfl, hJx'⟩
      · have HJ' := Lib.hid hJ'
        have HK' : Hid (hi ≤ W'.heap.size) := Lib.hid (Nat.le_trans HK.out hK'.size)
        have HOb' : Hid (∀ b, grow O wr W' b → hi ≤ b) := Lib.hid (fun b hb => hb.elim (HOb.out b) (fun h => Nat.le_trans HK.out h.1))
        have keepk : ∀ k, k < hi → k < wr.heap.size → W'.heap[k]? = wr.heap[k]? := fun k h2 h3 => hK'.block k h3 (fun hm => by have := HOb.out k hm; omega)
        have HB' : Hid (Blk W' b [.int .i64 x.el, .int .i64 x.sq, .pointer q', .int .i64 (r.length + 1 : Nat)] 145) := HBb.out.of_eq (keepk b hb2 HBb.out.lt)
        have HR' : Hid (IsPr hi W' r q') := HR.out.keep keepk
        have c2 := HB'.out.cell_at (o := 2) rfl
        have HMU : Hid (mu_pr W' (.pointer q') < mu_pr wr (.pointer (some ⟨b, 0, none⟩))) := by
          have e1 := HR'.out.mu
          have e2 := IsPr.mu (xs := x :: r) HC.out
          rw [Hid, e1, e2]; simp
        clear hJ' hK' HHh HRd hy keepk c0 c1
        go_wp2
        go_roundw
        case rel => exact ⟨pre ++ [x], r, q', rfl, by rw [HX.out, List.append_assoc]; rfl, HR'.out, ⟨_, HJ'.out, HOb'.out⟩, HK'.out⟩
        case measure => exact HMU.out
      · have HJx' := Lib.hid hJx'
        clear hJx' HHh HRd hy
        go_wp2
        refine bodyPost_ret (results_none rfl _ _ _) rfl ?_
        exact ⟨⟨_, rfl⟩, .inr ⟨_, _, ⟨r, by rw [HX.out, List.append_assoc]; rfl⟩, HJx'.out⟩⟩

theorem info_pr : (Try.prog.info? 89).map (fun i => (i.zero, i.size, i.bytes)) = some (some (.agg #[.int .i64 0, .int .i64 0]), 2, 16) := by kernel_rfl
def zpr : Pr := { el := 0, sq := 0 }
theorem made_pr (w : World) (n : Nat) : (w.alloc (.cells (madeCells (Value.agg #[.int .i64 0, .int .i64 0]).cells (n * 2)).toList.toArray 89)) = w.alloc (.cells ((List.replicate n zpr).flatMap Pr.cells).toArray 89) := by
  rw [made_recs Pr.len (by omega) zpr (Value.agg #[.int .i64 0, .int .i64 0]).cells (by rfl) n]
set_option maxHeartbeats 4000000 in
theorem list_pr (hi : Nat) (xs : List Pr) (p : Option Addr) (w : World) (h : IsPr hi w xs p) (hhi : hi ≤ w.heap.size) (hn : xs.length ≤ 100000) :
    Calls Try.prog 88 #[.pointer p] w fun e w' => (∃ g, e = .returned (.slice (some ⟨g, 0, none⟩) xs.length xs.length) ∧ w.heap.size ≤ g ∧ Blk w' g (xs.reverse.flatMap Pr.cells) 89) ∧ Fr [] w w' := by
  obtain ⟨i0, hi0, hz0, hz1, hz2⟩ := info_parts info_pr
  have hm : xs.length ≤ maxLen := by unfold maxLen; omega
  have HC := Lib.hid h
  clear h
  obtain ⟨n, hxn⟩ : ∃ n, n = xs.length := ⟨_, rfl⟩
  rw [← hxn] at hm hn
  rw [← hxn]
  have HXN := Lib.hid hxn
  have HLN : Hid (∀ W, IsPr hi W xs p → Calls Try.prog 94 #[.pointer p] W fun e w' => e = .returned (.int .i64 n) ∧ W = w') := Lib.hid (fun W hW => by rw [hxn]; exact len_pr hi xs p W hW)
  clear hxn
  refine calls_marks Try.func88 rfl ?_
  simp only [Try.ntmps88, List.size_toArray, List.length_cons, List.length_nil, Nat.reduceAdd, Nat.reduceSub, Array.replicate_succ, Array.replicate_zero, List.push_toArray, List.append_toArray, List.nil_append, List.cons_append]
  obtain ⟨zs, hzs⟩ : ∃ zs : List Value, zs = (List.replicate n zpr).flatMap Pr.cells := ⟨_, rfl⟩
  have HZS := Lib.hid hzs
  clear hzs
  go_upto_region 3 with (first | (go_at_call 94; refine (HLN.out _ HC.out).mono ?_; rintro e w' ⟨rfl, rfl⟩) | (at_make; refine wpList_make_blk _ rfl _ _ _ rfl 89 i0 (.agg #[.int .i64 0, .int .i64 0]) 2 16 Try.underlying86 hi0 hz0 hz1 hz2 .i64 .i64 _ _ n rfl rfl rfl rfl (by omega) hm ?_; rw [made_pr, ← HZS.out]))
  obtain ⟨B1, B2, B3, F0⟩ := new3 w zs 89 [.slice (some ⟨w.heap.size, 0, none⟩) n n] 86 [.int .i64 n] 3
  obtain ⟨wa, hwa⟩ : ∃ x : World, x = ((w.alloc (.cells zs.toArray 89)).alloc (.cells #[.slice (some ⟨w.heap.size, 0, none⟩) n n] 86)).alloc (.cells #[.int .i64 n] 3) := ⟨_, rfl⟩
  rw [← hwa]
  rw [← hwa] at B1 B2 B3 F0
  obtain ⟨L, hL⟩ : ∃ L, L = w.heap.size := ⟨_, rfl⟩
  rw [← hL] at B1 B2 B3 hhi ⊢
  have HL : Hid (L = w.heap.size) := hL
  have HB1 := Lib.hid B1
  have HB2 := Lib.hid B2
  have HB3 := Lib.hid B3
  have HF0 := Lib.hid F0
  have HHI := Lib.hid hhi
  clear hwa B1 B2 B3 F0 hL hhi
  go_wp2_with fail
  refine (back_pr p wa).mono ?_
  rintro e wg ⟨rfl, hwg⟩
  obtain ⟨X, hX⟩ : ∃ X, X = wa.heap.size := ⟨_, rfl⟩
  rw [← hX]
  have FG : Hid (Fr [] wa wg) := by rw [hwg]; exact (Fr.refl _ _).alloc _
  have BX : Hid (Blk wg X [.pointer p] 70) := by rw [hwg, hX]; exact Blk.new wa _ _
  have HXL : Hid (L + 1 + 1 < X ∧ X < wg.heap.size) := ⟨by rw [hX]; exact HB3.out.lt, BX.out.lt⟩
  have HFG : Hid (Fr [] w wg) := HF0.out.trans0 FG.out
  have C1 : Hid (Blk wg L zs 89) := HB1.out.fr FG.out (by simp)
  have C2 : Hid (Blk wg (L + 1) [.slice (some ⟨L, 0, none⟩) n n] 86) := HB2.out.fr FG.out (by simp)
  have C3 : Hid (Blk wg (L + 1 + 1) [.int .i64 n] 3) := HB3.out.fr FG.out (by simp)
  have HCG : Hid (IsPr hi wg xs p) := HC.out.fr0 HFG.out
  clear hwg hX HB1 HB2 HB3 FG HF0
  go_wp2_with fail
  refine (wpIn_wide (n := 9)).1 ?_
  refine' wpIn_loop_box (w0 := wg) (T := []) (O0 := fun b => b = L ∨ b = L + 1 + 1) rfl (enters_of Try.func104 (by kernel_rfl) rfl)
    (back_pr_T hi X _ xs p wg HCG.out (by have := HHI.out; have := HXL.out; omega) BX.out (by have := HHI.out; omega) (by have := HXL.out; omega))
    (by have := HXL.out; omega) (by simp) (Below.refl _ _) (fun _ => rfl)
    (fun pre O W => (O L ∧ O (L + 1 + 1) ∧ ∀ b, O b → b = L ∨ b = L + 1 + 1 ∨ wg.heap.size ≤ b) ∧ Fr [L, L + 1 + 1] wg W ∧ Blk W L ((List.replicate (n - pre.length) zpr ++ pre.reverse).flatMap Pr.cells) 89 ∧ Blk W (L + 1 + 1) [.int .i64 (n - pre.length : Nat)] 3)
    (fun _ _ _ _ => False)
    (fun s O W W' h hk => ⟨h.1, fr_low h.2.1 hk, h.2.2.1.keeps hk (.inl h.1.1), h.2.2.2.keeps hk (.inl h.1.2.1)⟩)
    (fun _ _ _ _ _ h _ => h)
    ⟨⟨.inl rfl, .inr rfl, fun b hb => by rcases hb with h | h; exact .inl h; exact .inr (.inl h)⟩, Fr.refl _ _, by have := C1.out; rw [HZS.out] at this; simpa using this, by simpa using C3.out⟩ (fun _ _ _ h _ => h) (fun _ _ _ h _ => h) _ (fun x => [.int .i64 x.el, .int .i64 x.sq]) 89 ?assign ?body ?done ?stop
  case assign =>
    intro l x nb W K hnb hK
    gi_wp2
    exact hK
  case body =>
    rintro l pre x O nb W ⟨hOO, hF, hB, hN⟩ hlt hnb1 hnb2 hnb3 hBX
    have HOO := Lib.hid hOO
    have HNB : Hid (L + 1 + 1 < nb ∧ wg.heap.size < nb ∧ nb + 1 = W.heap.size ∧ ∀ b, O b → b < nb) := Lib.hid ⟨by have := HXL.out; omega, hnb1, hnb3, hnb2⟩
    have HBX := Lib.hid hBX
    have cx0 := hBX.cell_at (o := 0) rfl
    have cx1 := hBX.cell_at (o := 1) rfl
    clear hOO hnb1 hnb2 hnb3 hBX
    rw [← HXN.out] at hlt
    obtain ⟨m, hm1⟩ : ∃ m, n - pre.length = m + 1 := ⟨n - pre.length - 1, by omega⟩
    rw [hm1] at hB hN
    have hcE := hN.cell_at (o := 0) rfl
    have hfE := hN.thawed 0
    have hcB := (C2.out.fr hF (by simp)).cell_at (o := 0) rfl
    have hl0 : (((List.replicate m zpr).flatMap Pr.cells)).length = m * 2 := by rw [recs_len Pr.len, List.length_replicate]
    have hsplit : ((List.replicate (m + 1) zpr ++ pre.reverse).flatMap Pr.cells) = (List.replicate m zpr).flatMap Pr.cells ++ ([.int .i64 0, .int .i64 0] ++ pre.reverse.flatMap Pr.cells) := by
      rw [List.replicate_succ', List.append_assoc, List.flatMap_append, List.flatMap_append]; rfl
    rw [hsplit] at hB
    have hfL := hB.thawed
    have hcL0 : W.cell? ⟨L, m * 2, none⟩ = some (.int .i64 0) := hB.cell_at (o := m * 2 + 0) (get_mid hl0 rfl)
    have hcL1 : W.cell? ⟨L, m * 2 + 1, none⟩ = some (.int .i64 0) := hB.cell_at (o := m * 2 + 1) (get_mid hl0 rfl)
    have hmn : m < n := by omega
    have HF := Lib.hid hF
    have HB := Lib.hid hB
    have HN := Lib.hid hN
    have HM := Lib.hid hm1
    have e1 : ((m + 1 : Nat) : Int) - 1 = (m : Int) := by omega
    have e0 : IntKind.i64.wrap (((m + 1 : Nat) : Int) - 1) = (m : Int) := by rw [e1]; exact IntWalk.i64_in _ (by omega)
    have F1 : Hid (∀ V, V = ((W.setCell ⟨L + 1 + 1, 0, none⟩ (.int .i64 (m : Int))).setCell ⟨L, m * 2, none⟩ (.int .i64 x.el)).setCell ⟨L, m * 2 + 1, none⟩ (.int .i64 x.sq) → Fr [L, L + 1 + 1] W V ∧ Blk V L ((List.replicate (n - (pre ++ [x]).length) zpr ++ (pre ++ [x]).reverse).flatMap Pr.cells) 89 ∧ Blk V (L + 1 + 1) [.int .i64 (n - (pre ++ [x]).length : Nat)] 3) := Lib.hid (by
      intro V hV
      rw [hV]
      have hl : n - (pre ++ [x]).length = m := by rw [List.length_append]; have := HM.out; simp; omega
      rw [hl]
      refine ⟨((((Fr.refl _ _).set (by simp) _)).set (by simp) _).set (by simp) _, ?_, ?_⟩
      · have h := (((HB.out.set_ne (a := ⟨L + 1 + 1, 0, none⟩) (by simp; omega) (.int .i64 (m : Int))).set (m * 2) (.int .i64 x.el)).set (m * 2 + 1) (.int .i64 x.sq))
        rw [set_mid0 hl0 (by simp), set_mid hl0 (by simp)] at h
        rw [List.flatMap_append, List.reverse_append, List.reverse_singleton, List.singleton_append, List.flatMap_cons]
        exact h
      · exact (((HN.out.set 0 (.int .i64 (m : Int)))).set_ne (a := ⟨L, _, none⟩) (by simp; omega) _).set_ne (a := ⟨L, _, none⟩) (by simp; omega) _)
    clear hF hB hN hm1 hlt hsplit hl0
    have hne : ¬ L = L + 1 + 1 := by omega
    have hne2 : ¬ L + 1 = L + 1 + 1 := by omega
    have hnx1 : ¬ nb = L + 1 + 1 := by have := HNB.out.1; omega
    have hnx2 : ¬ L + 1 + 1 = nb := by have := HNB.out.1; omega
    gi_wp2
    have f1 := F1.out _ rfl
    exact ⟨Keeps.of_fr f1.1 (fun k hk hn hm => by simp only [List.mem_cons, List.not_mem_nil, or_false] at hm; rcases hm with rfl | rfl; exact hn (.inl HOO.out.1); exact hn (.inl HOO.out.2.1)),
      ⟨.inl (.inl HOO.out.1), .inl (.inl HOO.out.2.1), fun b hb => by
        have := HNB.out
        rcases hb with (hb | hb) | hb
        · exact HOO.out.2.2 b hb
        · omega
        · omega⟩, HF.out.same f1.1, f1.2.1, f1.2.2⟩
  case done =>
    rintro D ys O W ⟨hD, _, _⟩ hys ⟨_, hF, hB, hN⟩ hK
    rw [hys, ← HXN.out, Nat.sub_self] at hB
    have cB := (C2.out.fr hF (by simp)).cell_at (o := 0) rfl
    have HF := Lib.hid hF
    have HB := Lib.hid hB
    have HK := Lib.hid hK
    have HD := Lib.hid hD
    clear hF hB hN hK hD hys
    go_wp2
    refine leaves_loop HK.out (results_tmp rfl _ _ _) ⟨⟨L, rfl, by rw [← HL.out]; exact Nat.le_refl _, ?_⟩, ?_⟩
    · have := HB.out.taken HK.out (.deferred none)
      simpa using this
    · exact (HFG.out.trans HF.out (by have := HL.out; simp; omega)).taken (by have := HFG.out.size; have := HD.out; omega) _
  case stop =>
    rintro D c pre O W hD hSp h hK
    exact h.elim

structure Bd where
  v : ByteArray
  t : ByteArray
  k : ByteArray
  i : Int
  s : Int
  va : Option Addr
  vn : Nat
  vc : Nat
def Bd.cells (x : Bd) : List Value := [.string x.v, .string x.t, .string x.k, .int .i64 x.i, .int .i64 x.s, .slice x.va x.vn x.vc]
theorem Bd.len (x : Bd) : x.cells.length = 6 := rfl
/-- a chain in memory, the newest first; its blocks lie below hi -/
def IsBd (hi : Nat) (w : World) : List Bd → Option Addr → Prop
  | [], p => p = none
  | x :: r, p => ∃ b q, p = some ⟨b, 0, none⟩ ∧ b < hi ∧ Blk w b [.string x.v, .string x.t, .string x.k, .int .i64 x.i, .int .i64 x.s, .slice x.va x.vn x.vc, .pointer q, .int .i64 (r.length + 1 : Nat)] 147 ∧ IsBd hi w r q
theorem IsBd.keep {hi : Nat} {w w1 : World} : ∀ {xs : List Bd} {p : Option Addr}, IsBd hi w xs p → (∀ k, k < hi → k < w.heap.size → w1.heap[k]? = w.heap[k]?) → IsBd hi w1 xs p
  | [], _, h, _ => h
  | _ :: _, _, ⟨b, q, hp, h2, hb, hr⟩, hk => ⟨b, q, hp, h2, hb.of_eq (hk b h2 hb.lt), IsBd.keep hr hk⟩
theorem IsBd.fr0 {hi : Nat} {w w1 : World} {xs : List Bd} {p : Option Addr} (h : IsBd hi w xs p) (hf : Fr [] w w1) : IsBd hi w1 xs p :=
  h.keep fun k _ hk => hf.block k hk (by simp)
theorem IsBd.wide {hi hi' : Nat} {w : World} : ∀ {xs : List Bd} {p : Option Addr}, IsBd hi w xs p → hi ≤ hi' → IsBd hi' w xs p
  | [], _, h, _ => h
  | _ :: _, _, ⟨b, q, hp, h2, hb, hr⟩, hh => ⟨b, q, hp, by omega, hb, IsBd.wide hr hh⟩
/-- how long a chain is, read off the memory -/
def mu_bd (w : World) : Value → Nat
  | .pointer (some a) => match w.cell? ⟨a.block, 7, none⟩ with | some (.int _ n) => n.toNat | _ => 0
  | _ => 0
theorem IsBd.mu {hi : Nat} {w : World} {xs : List Bd} {p : Option Addr} (h : IsBd hi w xs p) : mu_bd w (.pointer p) = xs.length := by
  cases xs with
  | nil => have : p = none := h; subst this; rfl
  | cons x r =>
    obtain ⟨b, q, rfl, _, hb, _⟩ := h
    have := hb.cell_at (o := 7) rfl
    simp only [mu_bd, this]
    simp
theorem len_bd (hi : Nat) (xs : List Bd) (p : Option Addr) (w : World) (h : IsBd hi w xs p) :
    Calls Try.prog 97 #[.pointer p] w fun e w' => e = .returned (.int .i64 xs.length) ∧ w = w' := by
  cases xs with
  | nil =>
    have : p = none := h
    subst this
    go_enter Try.func97, Try.ntmps97
    go_wp2
    go_ret
    exact ⟨rfl, rfl⟩
  | cons x r =>
    obtain ⟨b, q, rfl, _, hb, _⟩ := h
    have h2 := hb.cell_at (o := 7) rfl
    clear hb
    rw [List.length_cons]
    generalize r.length + 1 = n at h2 ⊢
    go_enter Try.func97, Try.ntmps97
    go_wp2
    go_ret
    exact ⟨rfl, rfl⟩
theorem back_bd (p : Option Addr) (w : World) : Calls Try.prog 103 #[.pointer p] w fun e w' =>
    e = .returned (.func (.func 105) #[] #[.pointer (some ⟨w.heap.size, 0, none⟩)]) ∧ w' = w.alloc (.cells #[.pointer p] 71) := by
  go_enter Try.func103, Try.ntmps103
  go_wp2
  go_ret
  exact ⟨rfl, rfl⟩
set_option maxHeartbeats 2000000 in
theorem back_bd_T (hi B : Nat) (O0 : Nat → Prop) (xs : List Bd) (p : Option Addr) (w : World) (h : IsBd hi w xs p) (hhi : hi ≤ w.heap.size) (hB : Blk w B [.pointer p] 71)
    (hO : ∀ b, O0 b → hi ≤ b) (hBO : ¬ O0 B) :
    SeqT Try.prog 105 #[.pointer (some ⟨B, 0, none⟩)] (fun x : Bd => #[.agg #[.string x.v, .string x.t, .string x.k, .int .i64 x.i, .int .i64 x.s, .slice x.va x.vn x.vc]]) [] O0
      (fun ys _ => ys = xs) (fun pre _ => pre <+: xs) xs.length w := by
  intro l J Jx W hW hl1 hl2 hJ hJx hY h0
  have hR0 : IsBd hi W xs p := h.keep fun k _ hk => hW.block k hk
  have hB0 : Blk W B [.pointer p] 71 := (hW.block B hB.lt).trans hB
  have hsz : hi ≤ W.heap.size := Nat.le_trans hhi hW.size
  clear h hB hW
  have hY := Lib.hid hY
  have HR0 := Lib.hid hR0
  have qB := hB0.cell_at (o := 0) rfl
  have HO : Hid (∀ b, O0 b → hi ≤ b) := hO
  have HSZ : Hid (hi ≤ W.heap.size) := hsz
  clear hR0 hB0 hJ hJx hO hsz hhi hl1 hl2
  refine callsIn_of_wp Try.func105 rfl trivial ?_ rfl
  simp only [Try.ntmps105, List.size_toArray, List.length_cons, List.length_nil, Nat.reduceAdd, Nat.reduceSub, Array.replicate_succ, Array.replicate_zero, List.push_toArray, List.append_toArray, List.nil_append, List.cons_append]
  refine wpIn_wide.2 ?_
  go_wp2_with fail
  go_loopw [3] (fun v wr => ∃ (pre rest : List Bd) (q : Option Addr), v = .pointer q ∧ xs = pre ++ rest ∧ IsBd hi wr rest q ∧ (∃ O, J pre O wr ∧ ∀ b, O b → hi ≤ b) ∧ hi ≤ wr.heap.size) (fun v wr => mu_bd wr v)
  case atStart => exact ⟨[], xs, p, rfl, rfl, HR0.out, ⟨O0, h0, HO.out⟩, HSZ.out⟩
  case round =>
    obtain ⟨pre, rest, q, rfl, hx, hc, ⟨O, hJs, hO⟩, hK⟩ := hrel
    have HOb := Lib.hid hO
    have HX := Lib.hid hx
    have HC := Lib.hid hc
    have HK := Lib.hid hK
    have HJs := Lib.hid hJs
    clear hx hc hK hJs hO
    cases rest with
    | nil =>
      go_wp2_with (first | (go_at_call 97; refine (len_bd hi [] q _ HC.out).mono ?_; rintro e w' ⟨rfl, rfl⟩))
      go_end0
      exact ⟨⟨_, rfl⟩, .inl ⟨_, O, by rw [HX.out, List.append_nil], HJs.out⟩⟩
    | cons x r =>
      obtain ⟨b, q', rfl, hb2, hb, hr⟩ := HC.out
      have c0 := hb.cell_at (o := 0) rfl
      have c1 := hb.cell_at (o := 1) rfl
      have c2 := hb.cell_at (o := 2) rfl
      have c3 := hb.cell_at (o := 3) rfl
      have c4 := hb.cell_at (o := 4) rfl
      have c5 := hb.cell_at (o := 5) rfl
      have HBb := Lib.hid hb
      have HR := Lib.hid hr
      have hz : decide ((0 : Int) < ((r.length + 1 : Nat) : Int)) = true := decide_eq_true (by omega)
      have HLN : Hid (pre.length < xs.length) := by have := HX.out; rw [this]; simp [Hid]
      clear hb hr
      obtain ⟨fn, tmps, assign, body, hy, hR⟩ := hY.out _ x O wr HJs.out HLN.out
      have HRd := Lib.hid (hR.mono (R' := fun e W' => ∃ bb : Bool, e = .returned (.bool bb) ∧ ((bb = true ∧ J (pre ++ [x]) (grow O wr W') W' ∧ Keeps (fun k => ¬ O k) wr W') ∨ (bb = false ∧ Jx (pre ++ [x]) (grow O wr W') W')))
        (fun e W' h => by
          rcases h with ⟨rfl, h1, h2⟩ | ⟨rfl, h1, _⟩
          · exact ⟨true, rfl, .inl ⟨rfl, h1, h2⟩⟩
          · exact ⟨false, rfl, .inr ⟨rfl, h1⟩⟩))
      clear hR
      go_upto_region 3 with (first | (go_at_call 97; refine (len_bd hi (x :: r) _ _ HC.out).mono ?_; rintro e w' ⟨rfl, rfl⟩))
      refine (wpIn_wide (n := 8)).1 ?_
      gi_wp2
      refine HRd.out.mono ?_
      rintro e W' ⟨bb, rfl, hh⟩
      have HHh := Lib.hid hh
      clear hh
      gi_wp2
      rcases HHh.out with ⟨rfl, hJ', hK'⟩ | ⟨rfl, hJx'⟩
      · have HJ' := Lib.hid hJ'
        have HK' : Hid (hi ≤ W'.heap.size) := Lib.hid (Nat.le_trans HK.out hK'.size)
        have HOb' : Hid (∀ b, grow O wr W' b → hi ≤ b) := Lib.hid (fun b hb => hb.elim (HOb.out b) (fun h => Nat.le_trans HK.out h.1))
        have keepk : ∀ k, k < hi → k < wr.heap.size → W'.heap[k]? = wr.heap[k]? := fun k h2 h3 => hK'.block k h3 (fun hm => by have := HOb.out k hm; omega)
        have HB' : Hid (Blk W' b [.string x.v, .string x.t, .string x.k, .int .i64 x.i, .int .i64 x.s, .slice x.va x.vn x.vc, .pointer q', .int .i64 (r.length + 1 : Nat)] 147) := HBb.out.of_eq (keepk b hb2 HBb.out.lt)
        have HR' : Hid (IsBd hi W' r q') := HR.out.keep keepk
        have c6 := HB'.out.cell_at (o := 6) rfl
        have HMU : Hid (mu_bd W' (.pointer q') < mu_bd wr (.pointer (some ⟨b, 0, none⟩))) := by
          have e1 := HR'.out.mu
          have e2 := IsBd.mu (xs := x :: r) HC.out
          rw [Hid, e1, e2]; simp
        clear hJ' hK' HHh HRd hy keepk c0 c1 c2 c3 c4 c5
        go_wp2
        go_roundw
        case rel => exact ⟨pre ++ [x], r, q', rfl, by rw [HX.out, List.append_assoc]; rfl, HR'.out, ⟨_, HJ'.out, HOb'.out⟩, HK'.out⟩
        case measure => exact HMU.out
      · have HJx' := Lib.hid hJx'
        clear hJx' HHh HRd hy
        go_wp2
        refine bodyPost_ret (results_none rfl _ _ _) rfl ?_
        exact ⟨⟨_, rfl⟩, .inr ⟨_, _, ⟨r, by rw [HX.out, List.append_assoc]; rfl⟩, HJx'.out⟩⟩

theorem info_bd : (Try.prog.info? 127).map (fun i => (i.zero, i.size, i.bytes)) = some (some (.agg #[.string ⟨#[]⟩, .string ⟨#[]⟩, .string ⟨#[]⟩, .int .i64 0, .int .i64 0, .slice none 0 0]), 6, 88) := by kernel_rfl
def zbd : Bd := { v := ⟨#[]⟩, t := ⟨#[]⟩, k := ⟨#[]⟩, i := 0, s := 0, va := none, vn := 0, vc := 0 }
theorem made_bd (w : World) (n : Nat) : (w.alloc (.cells (madeCells (Value.agg #[.string ⟨#[]⟩, .string ⟨#[]⟩, .string ⟨#[]⟩, .int .i64 0, .int .i64 0, .slice none 0 0]).cells (n * 6)).toList.toArray 127)) = w.alloc (.cells ((List.replicate n zbd).flatMap Bd.cells).toArray 127) := by
  rw [made_recs Bd.len (by omega) zbd (Value.agg #[.string ⟨#[]⟩, .string ⟨#[]⟩, .string ⟨#[]⟩, .int .i64 0, .int .i64 0, .slice none 0 0]).cells (by rfl) n]
set_option maxHeartbeats 4000000 in
theorem list_bd (hi : Nat) (xs : List Bd) (p : Option Addr) (w : World) (h : IsBd hi w xs p) (hhi : hi ≤ w.heap.size) (hn : xs.length ≤ 100000) :
    Calls Try.prog 96 #[.pointer p] w fun e w' => (∃ g, e = .returned (.slice (some ⟨g, 0, none⟩) xs.length xs.length) ∧ w.heap.size ≤ g ∧ Blk w' g (xs.reverse.flatMap Bd.cells) 127) ∧ Fr [] w w' := by
  obtain ⟨i0, hi0, hz0, hz1, hz2⟩ := info_parts info_bd
  have hm : xs.length ≤ maxLen := by unfold maxLen; omega
  have HC := Lib.hid h
  clear h
  obtain ⟨n, hxn⟩ : ∃ n, n = xs.length := ⟨_, rfl⟩
  rw [← hxn] at hm hn
  rw [← hxn]
  have HXN := Lib.hid hxn
  have HLN : Hid (∀ W, IsBd hi W xs p → Calls Try.prog 97 #[.pointer p] W fun e w' => e = .returned (.int .i64 n) ∧ W = w') := Lib.hid (fun W hW => by rw [hxn]; exact len_bd hi xs p W hW)
  clear hxn
  refine calls_marks Try.func96 rfl ?_
  simp only [Try.ntmps96, List.size_toArray, List.length_cons, List.length_nil, Nat.reduceAdd, Nat.reduceSub, Array.replicate_succ, Array.replicate_zero, List.push_toArray, List.append_toArray, List.nil_append, List.cons_append]
  obtain ⟨zs, hzs⟩ : ∃ zs : List Value, zs = (List.replicate n zbd).flatMap Bd.cells := ⟨_, rfl⟩
  have HZS := Lib.hid hzs
  clear hzs
  go_upto_region 3 with (first | (go_at_call 97; refine (HLN.out _ HC.out).mono ?_; rintro e w' ⟨rfl, rfl⟩) | (at_make; refine wpList_make_blk _ rfl _ _ _ rfl 127 i0 (.agg #[.string ⟨#[]⟩, .string ⟨#[]⟩, .string ⟨#[]⟩, .int .i64 0, .int .i64 0, .slice none 0 0]) 6 88 Try.underlying121 hi0 hz0 hz1 hz2 .i64 .i64 _ _ n rfl rfl rfl rfl (by omega) hm ?_; rw [made_bd, ← HZS.out]))
  obtain ⟨B1, B2, B3, F0⟩ := new3 w zs 127 [.slice (some ⟨w.heap.size, 0, none⟩) n n] 121 [.int .i64 n] 3
  obtain ⟨wa, hwa⟩ : ∃ x : World, x = ((w.alloc (.cells zs.toArray 127)).alloc (.cells #[.slice (some ⟨w.heap.size, 0, none⟩) n n] 121)).alloc (.cells #[.int .i64 n] 3) := ⟨_, rfl⟩
  rw [← hwa]
  rw [← hwa] at B1 B2 B3 F0
  obtain ⟨L, hL⟩ : ∃ L, L = w.heap.size := ⟨_, rfl⟩
  rw [← hL] at B1 B2 B3 hhi ⊢
  have HL : Hid (L = w.heap.size) := hL
  have HB1 := Lib.hid B1
  have HB2 := Lib.hid B2
  have HB3 := Lib.hid B3
  have HF0 := Lib.hid F0
  have HHI := Lib.hid hhi
  clear hwa B1 B2 B3 F0 hL hhi
  go_wp2_with fail
  refine (back_bd p wa).mono ?_
  rintro e wg ⟨rfl, hwg⟩
  obtain ⟨X, hX⟩ : ∃ X, X = wa.heap.size := ⟨_, rfl⟩
  rw [← hX]
  have FG : Hid (Fr [] wa wg) := by rw [hwg]; exact (Fr.refl _ _).alloc _
  have BX : Hid (Blk wg X [.pointer p] 71) := by rw [hwg, hX]; exact Blk.new wa _ _
  have HXL : Hid (L + 1 + 1 < X ∧ X < wg.heap.size) := ⟨by rw [hX]; exact HB3.out.lt, BX.out.lt⟩
  have HFG : Hid (Fr [] w wg) := HF0.out.trans0 FG.out
  have C1 : Hid (Blk wg L zs 127) := HB1.out.fr FG.out (by simp)
  have C2 : Hid (Blk wg (L + 1) [.slice (some ⟨L, 0, none⟩) n n] 121) := HB2.out.fr FG.out (by simp)
  have C3 : Hid (Blk wg (L + 1 + 1) [.int .i64 n] 3) := HB3.out.fr FG.out (by simp)
  have HCG : Hid (IsBd hi wg xs p) := HC.out.fr0 HFG.out
  clear hwg hX HB1 HB2 HB3 FG HF0
  go_wp2_with fail
  refine (wpIn_wide (n := 9)).1 ?_
  refine' wpIn_loop_box (w0 := wg) (T := []) (O0 := fun b => b = L ∨ b = L + 1 + 1) rfl (enters_of Try.func105 (by kernel_rfl) rfl)
    (back_bd_T hi X _ xs p wg HCG.out (by have := HHI.out; have := HXL.out; omega) BX.out (by have := HHI.out; omega) (by have := HXL.out; omega))
    (by have := HXL.out; omega) (by simp) (Below.refl _ _) (fun _ => rfl)
    (fun pre O W => (O L ∧ O (L + 1 + 1) ∧ ∀ b, O b → b = L ∨ b = L + 1 + 1 ∨ wg.heap.size ≤ b) ∧ Fr [L, L + 1 + 1] wg W ∧ Blk W L ((List.replicate (n - pre.length) zbd ++ pre.reverse).flatMap Bd.cells) 127 ∧ Blk W (L + 1 + 1) [.int .i64 (n - pre.length : Nat)] 3)
    (fun _ _ _ _ => False)
    (fun s O W W' h hk => ⟨h.1, fr_low h.2.1 hk, h.2.2.1.keeps hk (.inl h.1.1), h.2.2.2.keeps hk (.inl h.1.2.1)⟩)
    (fun _ _ _ _ _ h _ => h)
    ⟨⟨.inl rfl, .inr rfl, fun b hb => by rcases hb with h | h; exact .inl h; exact .inr (.inl h)⟩, Fr.refl _ _, by have := C1.out; rw [HZS.out] at this; simpa using this, by simpa using C3.out⟩ (fun _ _ _ h _ => h) (fun _ _ _ h _ => h) _ (fun x => [.string x.v, .string x.t, .string x.k, .int .i64 x.i, .int .i64 x.s, .slice x.va x.vn x.vc]) 127 ?assign ?body ?done ?stop
  case assign =>
    intro l x nb W K hnb hK
    gi_wp2
    exact hK
  case body =>
    rintro l pre x O nb W ⟨hOO, hF, hB, hN⟩ hlt hnb1 hnb2 hnb3 hBX
    have HOO := Lib.hid hOO
    have HNB : Hid (L + 1 + 1 < nb ∧ wg.heap.size < nb ∧ nb + 1 = W.heap.size ∧ ∀ b, O b → b < nb) := Lib.hid ⟨by have := HXL.out; omega, hnb1, hnb3, hnb2⟩
    have HBX := Lib.hid hBX
    have cx0 := hBX.cell_at (o := 0) rfl
    have cx1 := hBX.cell_at (o := 1) rfl
    have cx2 := hBX.cell_at (o := 2) rfl
    have cx3 := hBX.cell_at (o := 3) rfl
    have cx4 := hBX.cell_at (o := 4) rfl
    have cx5 := hBX.cell_at (o := 5) rfl
    clear hOO hnb1 hnb2 hnb3 hBX
    rw [← HXN.out] at hlt
    obtain ⟨m, hm1⟩ : ∃ m, n - pre.length = m + 1 := ⟨n - pre.length - 1, by omega⟩
    rw [hm1] at hB hN
    have hcE := hN.cell_at (o := 0) rfl
    have hfE := hN.thawed 0
    have hcB := (C2.out.fr hF (by simp)).cell_at (o := 0) rfl
    have hl0 : (((List.replicate m zbd).flatMap Bd.cells)).length = m * 6 := by rw [recs_len Bd.len, List.length_replicate]
    have hsplit : ((List.replicate (m + 1) zbd ++ pre.reverse).flatMap Bd.cells) = (List.replicate m zbd).flatMap Bd.cells ++ ([.string ⟨#[]⟩, .string ⟨#[]⟩, .string ⟨#[]⟩, .int .i64 0, .int .i64 0, .slice none 0 0] ++ pre.reverse.flatMap Bd.cells) := by
      rw [List.replicate_succ', List.append_assoc, List.flatMap_append, List.flatMap_append]; rfl
    rw [hsplit] at hB
    have hfL := hB.thawed
    have hcL0 : W.cell? ⟨L, m * 6, none⟩ = some (.string ⟨#[]⟩) := hB.cell_at (o := m * 6 + 0) (get_mid hl0 rfl)
    have hcL1 : W.cell? ⟨L, m * 6 + 1, none⟩ = some (.string ⟨#[]⟩) := hB.cell_at (o := m * 6 + 1) (get_mid hl0 rfl)
    have hcL2 : W.cell? ⟨L, m * 6 + 2, none⟩ = some (.string ⟨#[]⟩) := hB.cell_at (o := m * 6 + 2) (get_mid hl0 rfl)
    have hcL3 : W.cell? ⟨L, m * 6 + 3, none⟩ = some (.int .i64 0) := hB.cell_at (o := m * 6 + 3) (get_mid hl0 rfl)
    have hcL4 : W.cell? ⟨L, m * 6 + 4, none⟩ = some (.int .i64 0) := hB.cell_at (o := m * 6 + 4) (get_mid hl0 rfl)
    have hcL5 : W.cell? ⟨L, m * 6 + 5, none⟩ = some (.slice none 0 0) := hB.cell_at (o := m * 6 + 5) (get_mid hl0 rfl)
    have hmn : m < n := by omega
    have HF := Lib.hid hF
    have HB := Lib.hid hB
    have HN := Lib.hid hN
    have HM := Lib.hid hm1
    have e1 : ((m + 1 : Nat) : Int) - 1 = (m : Int) := by omega
    have e0 : IntKind.i64.wrap (((m + 1 : Nat) : Int) - 1) = (m : Int) := by rw [e1]; exact IntWalk.i64_in _ (by omega)
    have F1 : Hid (∀ V, V = ((((((W.setCell ⟨L + 1 + 1, 0, none⟩ (.int .i64 (m : Int))).setCell ⟨L, m * 6, none⟩ (.string x.v)).setCell ⟨L, m * 6 + 1, none⟩ (.string x.t)).setCell ⟨L, m * 6 + 2, none⟩ (.string x.k)).setCell ⟨L, m * 6 + 3, none⟩ (.int .i64 x.i)).setCell ⟨L, m * 6 + 4, none⟩ (.int .i64 x.s)).setCell ⟨L, m * 6 + 5, none⟩ (.slice x.va x.vn x.vc) → Fr [L, L + 1 + 1] W V ∧ Blk V L ((List.replicate (n - (pre ++ [x]).length) zbd ++ (pre ++ [x]).reverse).flatMap Bd.cells) 127 ∧ Blk V (L + 1 + 1) [.int .i64 (n - (pre ++ [x]).length : Nat)] 3) := Lib.hid (by
      intro V hV
      rw [hV]
      have hl : n - (pre ++ [x]).length = m := by rw [List.length_append]; have := HM.out; simp; omega
      rw [hl]
      refine ⟨((((((((Fr.refl _ _).set (by simp) _)).set (by simp) _).set (by simp) _).set (by simp) _).set (by simp) _).set (by simp) _).set (by simp) _, ?_, ?_⟩
      · have h := (((((((HB.out.set_ne (a := ⟨L + 1 + 1, 0, none⟩) (by simp; omega) (.int .i64 (m : Int))).set (m * 6) (.string x.v)).set (m * 6 + 1) (.string x.t)).set (m * 6 + 2) (.string x.k)).set (m * 6 + 3) (.int .i64 x.i)).set (m * 6 + 4) (.int .i64 x.s)).set (m * 6 + 5) (.slice x.va x.vn x.vc))
        rw [set_mid0 hl0 (by simp), set_mid hl0 (by simp), set_mid hl0 (by simp), set_mid hl0 (by simp), set_mid hl0 (by simp), set_mid hl0 (by simp)] at h
        rw [List.flatMap_append, List.reverse_append, List.reverse_singleton, List.singleton_append, List.flatMap_cons]
        exact h
      · exact (((((((HN.out.set 0 (.int .i64 (m : Int)))).set_ne (a := ⟨L, _, none⟩) (by simp; omega) _).set_ne (a := ⟨L, _, none⟩) (by simp; omega) _).set_ne (a := ⟨L, _, none⟩) (by simp; omega) _).set_ne (a := ⟨L, _, none⟩) (by simp; omega) _).set_ne (a := ⟨L, _, none⟩) (by simp; omega) _).set_ne (a := ⟨L, _, none⟩) (by simp; omega) _)
    clear hF hB hN hm1 hlt hsplit hl0
    have hne : ¬ L = L + 1 + 1 := by omega
    have hne2 : ¬ L + 1 = L + 1 + 1 := by omega
    have hnx1 : ¬ nb = L + 1 + 1 := by have := HNB.out.1; omega
    have hnx2 : ¬ L + 1 + 1 = nb := by have := HNB.out.1; omega
    gi_wp2
    have f1 := F1.out _ rfl
    exact ⟨Keeps.of_fr f1.1 (fun k hk hn hm => by simp only [List.mem_cons, List.not_mem_nil, or_false] at hm; rcases hm with rfl | rfl; exact hn (.inl HOO.out.1); exact hn (.inl HOO.out.2.1)),
      ⟨.inl (.inl HOO.out.1), .inl (.inl HOO.out.2.1), fun b hb => by
        have := HNB.out
        rcases hb with (hb | hb) | hb
        · exact HOO.out.2.2 b hb
        · omega
        · omega⟩, HF.out.same f1.1, f1.2.1, f1.2.2⟩
  case done =>
    rintro D ys O W ⟨hD, _, _⟩ hys ⟨_, hF, hB, hN⟩ hK
    rw [hys, ← HXN.out, Nat.sub_self] at hB
    have cB := (C2.out.fr hF (by simp)).cell_at (o := 0) rfl
    have HF := Lib.hid hF
    have HB := Lib.hid hB
    have HK := Lib.hid hK
    have HD := Lib.hid hD
    clear hF hB hN hK hD hys
    go_wp2
    refine leaves_loop HK.out (results_tmp rfl _ _ _) ⟨⟨L, rfl, by rw [← HL.out]; exact Nat.le_refl _, ?_⟩, ?_⟩
    · have := HB.out.taken HK.out (.deferred none)
      simpa using this
    · exact (HFG.out.trans HF.out (by have := HL.out; simp; omega)).taken (by have := HFG.out.size; have := HD.out; omega) _
  case stop =>
    rintro D c pre O W hD hSp h hK
    exact h.elim
end Go.Proofs.Ytcnoaflojojfkab.Rn
