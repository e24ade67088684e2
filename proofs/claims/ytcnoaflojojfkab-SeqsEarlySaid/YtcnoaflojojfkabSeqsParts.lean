/- SeqsParts: the first ones, the others, and both together are all: the walk of the law. No condition. -/
import Derived.Test.YtcnoaflojojfkabSeqsMake
namespace Go.Proofs.Ytcnoaflojojfkab.Seqs
open Go.RowKit Go.Shelf
set_option linter.unusedVariables false
set_option linter.unusedSimpArgs false
set_option maxRecDepth 100000
attribute [local go_sem] Oper.semAt_some eq_fn eq_nil

theorem exec_cut {P : Program} {a : Act} {o : Oper} {x lo : Operand} {t : TypeId} {v l r : Value} (ho : o.op = .slice t x (some lo) none none) (hx : a.eval x = v) (hl : a.eval lo = l) (w : World)
    (h : (Instr.sliceAt t v (some l) none none).run P w = .ok r w) : (execOp a.eval o).run P w = .ok (.value r) w := by
  simp only [execOp, ho, hx, hl, Sem.run_bind, Option.map_some, Option.map_none, h, Result.andThen_ok, Sem.run_pure]
theorem op_append_view {P : Program} (w : World) {o : Oper} {a : Act} {K : Act → World → Prop} {Q : Exit → Act → World → Prop} (s x : Operand) (t : TypeId)
    (ho : o.op = .call { callee := .builtin .append, args := #[s, x], argTypes := #[t, t] })
    (B : Nat) (e : TypeId) (i : TypeInfo) (z : Value) (size bytes : Nat) (ht : P.underlying t = some (.slice e)) (hi : P.info? e = some i) (hz : i.zero = some z)
    (hsize : i.size = size) (hby : i.bytes = bytes) (hzs : z.cells.size = size)
    (sa : Option Addr) (sc n : Nat) (xs : List Value) (hs : a.eval s = .slice sa n sc) (hv : View w B e size (.slice sa n sc) n xs) (xv : Value) (m : Nat) (ys : List Value) (hxv : a.eval x = xv) (hx : Reads w size xv m ys) (h1 : ∀ u ∈ ys, u.oneCell' = true)
    (h63 : n + m ≤ maxLen) (hbytes : (n + m) * bytes ≤ 140737488355328) (hB : B ≤ w.heap.size)
    (h : ∀ a' c' w', View w' B e size (.slice a' (n + m) c') (n + m) (xs ++ ys) → w.grownBy w' (Value.slice sa n sc).ownBlock → K (a.put o.dst (.slice a' (n + m) c')) w') : Oper.wp P o a w K Q := by
  obtain ⟨v', w', hr, h2, h3, h4⟩ := append_view (P := P) w B t o.type e i z size bytes ht hi hz hsize hby hzs hv hx h1 h63 hbytes hB
  obtain ⟨a', c', rfl⟩ := h2.form
  unfold Oper.wp execOp
  simp only [ho, resolve, invoke, builtin, Sem.run_bind, Sem.run_pure, Result.andThen_ok, List.map_toArray, List.map_cons, List.map_nil, hs, hxv, hr]
  exact h a' c' w' h2 h3
theorem ones (l : List Int) : ∀ u ∈ l.map (Value.int .i64), u.oneCell' = true := by
  intro u hu
  obtain ⟨x, _, rfl⟩ := List.mem_map.1 hu
  rfl
theorem view_fr {w w5 w6 : World} {e : TypeId} {v : Value} {n : Nat} {xs : List Value} (h : Fr [] w w5) (hv : View w5 w.heap.size e 1 v n xs) (hg : w5.grownBy w6 v.ownBlock) : Fr [] w w6 :=
  h.grown hg (fun k hk => .inr (hv.lt hk).1)
theorem keep_grown {wa w5 w6 : World} {e : TypeId} {v : Value} {n : Nat} {xs : List Value} (h : ∀ k, k < wa.heap.size → w5.heap[k]? = wa.heap[k]?) (hv : View w5 wa.heap.size e 1 v n xs) (hs : wa.heap.size ≤ w5.heap.size) (hg : w5.grownBy w6 v.ownBlock) :
    ∀ k, k < wa.heap.size → w6.heap[k]? = wa.heap[k]? := fun k hk => (hg.block k (by omega) (fun e => by have := (hv.lt e.symm).1; omega)).trans (h k hk)
theorem reads_lt {w : World} {n b o c : Nat} {v : Value} {xs : List Value} (h : Reads w 1 v n xs) (e : v = .slice (some ⟨b, o, none⟩) n c) (hne : xs ≠ []) : b < w.heap.size := by
  obtain ⟨hl, a, c', rfl, hnc, h | ⟨b2, o2, rfl, h⟩⟩ := h
  · exact absurd h hne
  · simp only [Value.slice.injEq, Option.some.injEq, Addr.mk.injEq, and_true, true_and] at e
    obtain ⟨⟨rfl, rfl⟩, _⟩ := e
    cases xs with
    | nil => exact absurd rfl hne
    | cons x r => exact World.block_lt_of_cell? w _ (h 0 x rfl)
theorem some_any (D : List Nat) (f : Value) (xs : List Int) (n : Int) (kk : Nat) (hkk : (kk : Int) = min (max n 0) xs.length) (w : World) (h : It w D f xs) (hn2 : n ≤ 9223372036854775807) (hx : xs.length ≤ 100000) :
    Calls Try.prog 35 #[f, .int .i64 n] w fun e w' => (∃ a c, e = .returned (.slice a kk c) ∧ Reads w' 1 (.slice a kk c) kk ((xs.take kk).map (Value.int .i64))) ∧ Fr [] w w' := by
  by_cases hn : n ≤ 0
  · obtain rfl : kk = 0 := by omega
    obtain ⟨gf, lb, hf, _⟩ := h
    refine (some_none f n w (.inr ⟨hn, gf, lb, hf⟩)).mono ?_
    rintro e w' ⟨he, hfr⟩
    exact ⟨⟨none, 0, he, Reads.nil _ _⟩, hfr⟩
  · refine (some_it D f xs n kk (by omega) w h (by omega) hn2 hx).mono ?_
    rintro e w' ⟨⟨a, c, he, hv⟩, hfr⟩
    exact ⟨⟨a, c, he, hv.reads⟩, hfr⟩

set_option maxHeartbeats 8000000 in
theorem parts_walk (zl : List Int) (vl : Value) {w : World} (hrl : Reads w 1 vl zl.length (zl.map (Value.int .i64))) (_wl : ∀ x ∈ zl, (Lit.int .i64 x).wf = true) (hll : zl.length * 8 ≤ 140737488351232)
    (zm : List Int) (vm : Value) (hrm : Reads w 1 vm zm.length (zm.map (Value.int .i64))) (_wm : ∀ x ∈ zm, (Lit.int .i64 x).wf = true) (hlm : zm.length * 8 ≤ 140737488351232) (n : Int) (hwn : (Lit.int .i64 n).wf = true) :
    Calls Try.prog 7 #[vl, vm, .int .i64 n] w fun e w' => e = .returned (.bool true) ∧ Fr [] w w' := by
  have hn2 : n ≤ 9223372036854775807 := by
    have h := hwn
    simp only [Lit.wf, Bool.and_eq_true, decide_eq_true_eq] at h
    exact h.2
  obtain ⟨_, al, cl, rfl, hcl, hal⟩ := id hrl
  obtain ⟨_, am, cm, rfl, hcm, _⟩ := id hrm
  obtain ⟨xs, hxs⟩ : ∃ xs, xs = zl.take 20 := ⟨_, rfl⟩
  obtain ⟨ys, hys⟩ : ∃ ys, ys = zm.take 20 := ⟨_, rfl⟩
  have lx : xs.length = min 20 zl.length := by rw [hxs, List.length_take]
  have ly : ys.length = min 20 zm.length := by rw [hys, List.length_take]
  have tx : zl.take xs.length = xs := by rw [lx, hxs]; apply List.ext_getElem?; intro i; rw [List.getElem?_take, List.getElem?_take]; split <;> split <;> first | rfl | omega | (rw [List.getElem?_eq_none (by omega)])
  have ty : zm.take ys.length = ys := by rw [ly, hys]; apply List.ext_getElem?; intro i; rw [List.getElem?_take, List.getElem?_take]; split <;> split <;> first | rfl | omega | (rw [List.getElem?_eq_none (by omega)])
  have rx : Reads w 1 (.slice al xs.length cl) xs.length (xs.map (Value.int .i64)) := by have h := hrl.take1 xs.length (by omega); rwa [tx] at h
  have ry : Reads w 1 (.slice am ys.length cm) ys.length (ys.map (Value.int .i64)) := by have h := hrm.take1 ys.length (by omega); rwa [ty] at h
  obtain ⟨Dx, hdx⟩ := ReadsD.of rx
  obtain ⟨Dy, hdy⟩ := ReadsD.of ry
  have RX : Hid (∀ W, Fr [] w W → ReadsD W Dx (.slice al xs.length cl) xs) := Lib.hid (fun W h => hdx.fr0 h)
  have RY : Hid (∀ W, Fr [] w W → ReadsD W Dy (.slice am ys.length cm) ys) := Lib.hid (fun W h => hdy.fr0 h)
  have himx : imin (zl.length : Int) 20 = (xs.length : Int) := by rw [imin_eq]; omega
  have himy : imin (zm.length : Int) 20 = (ys.length : Int) := by rw [imin_eq]; omega
  have x20 : xs.length ≤ 20 := by omega
  have y20 : ys.length ≤ 20 := by omega
  have xc : xs.length ≤ cl := by omega
  have yc : ys.length ≤ cm := by omega
  have xc0 : (0 : Int) ≤ (xs.length : Int) := by omega
  have xc1 : (xs.length : Int) ≤ (cl : Int) := by omega
  have yc0 : (0 : Int) ≤ (ys.length : Int) := by omega
  have yc1 : (ys.length : Int) ≤ (cm : Int) := by omega
  obtain ⟨kk, hkk⟩ : ∃ kk : Nat, (kk : Int) = min (max n 0) xs.length := ⟨(min (max n 0) xs.length).toNat, by omega⟩
  have HKK : Hid ((kk : Int) = min (max n 0) xs.length) := hkk
  have himk : imin (imax n 0) (xs.length : Int) = (kk : Int) := by rw [imin_eq, imax_eq]; omega
  have kx : kk ≤ xs.length := by omega
  have kc : kk ≤ cl := by omega
  have kc0 : (0 : Int) ≤ (kk : Int) := by omega
  have kc1 : (kk : Int) ≤ (cl : Int) := by omega
  have kc2 : (kk : Int) ≤ (xs.length : Int) := by omega
  have HTK : Hid (xs.take n.toNat = xs.take kk) := Lib.hid (by
    apply List.ext_getElem?; intro i; rw [List.getElem?_take, List.getElem?_take]; split <;> split <;> first | rfl | omega | (rw [List.getElem?_eq_none (by omega)]))
  have HDK : Hid (xs.drop n.toNat = xs.drop kk) := Lib.hid (by
    by_cases h : n.toNat ≤ xs.length
    · rw [show n.toNat = kk by omega]
    · rw [List.drop_of_length_le (by omega), List.drop_of_length_le (by omega)])
  have HLT : Hid ((xs.take kk).length = kk) := Lib.hid (by rw [List.length_take]; omega)
  have HLD : Hid ((xs.drop kk).length = xs.length - kk) := Lib.hid (by rw [List.length_drop])
  obtain ⟨ac, hcut1, hcut2⟩ := cut_run al xs.length cl kk kx xc
  have HCUT : Hid (∀ w, (Instr.sliceAt 33 (.slice al xs.length cl) (some (.int .i64 (kk : Int))) none none).run Try.prog w = .ok (.slice ac (xs.length - kk) (cl - kk)) w) := hcut1
  have RC : Hid (∀ W, Fr [] w W → Reads W 1 (.slice ac (xs.length - kk) (cl - kk)) (xs.length - kk) ((xs.drop kk).map (Value.int .i64))) := Lib.hid (fun W h => hcut2 W xs (RX.out W h).rd)
  have RK : Hid (∀ W, Fr [] w W → Reads W 1 (.slice al kk cl) kk ((xs.take kk).map (Value.int .i64))) := Lib.hid (fun W h => (RX.out W h).rd.take1 kk kx)
  have HXSL : Hid (xs.length = xs.length) := Lib.hid rfl
  obtain ⟨i0, hi0, hz0, hz1, hz2⟩ := info_parts info_int
  have F0 : Hid (Fr [] w w) := Fr.refl _ _
  clear hrl hrm _wl _wm hwn hxs hys lx ly tx ty rx ry hdx hdy hkk hcut1 hcut2 hal
  go_enter Try.func7, Try.ntmps7
  go_wp2_with fail
  refine (awake_any _).mono ?_
  rintro e w1 ⟨rfl, hf⟩
  have F1 : Hid (Fr [] w w1) := Lib.hid (F0.out.trans0 hf)
  clear hf
  go_upto_region 3 with (fail)
  refine wp_region_plan_np (fun _ => True) [(0, true), (1, true), (2, true), (3, true), (4, true), (5, true), (6, true), (7, true), (8, true), (9, true), (10, true), (11, true)] (by kernel_rfl) (by kernel_rfl) trivial ?_
  refine hl_on (o := ?_) (v := ?_) ?_ ?_ (fun w hSw => ?_) ?_
  rotate_left 2
  (focus ((simp only [List.getElem?_toArray, List.getElem?_cons_succ, List.getElem?_cons_zero]); (try rfl); done))
  focus (rfl)
  focus (go_simp; (try with_reducible rfl); done)
  simp only [Act.put, List.setIfInBounds_toArray, List.set_cons_zero, List.set_cons_succ]
  refine hl_on (o := ?_) (v := ?_) ?_ ?_ (fun w hSw => ?_) ?_
  rotate_left 2
  (focus ((simp only [List.getElem?_toArray, List.getElem?_cons_succ, List.getElem?_cons_zero]); (try rfl); done))
  focus (rfl)
  focus (go_simp; (try with_reducible rfl); done)
  simp only [Act.put, List.setIfInBounds_toArray, List.set_cons_zero, List.set_cons_succ]
  refine hl_on (o := ?_) (v := ?_) ?_ ?_ (fun w hSw => ?_) ?_
  rotate_left 2
  (focus ((simp only [List.getElem?_toArray, List.getElem?_cons_succ, List.getElem?_cons_zero]); (try rfl); done))
  focus (rfl)
  focus (go_simp; (try with_reducible rfl); done)
  simp only [Act.put, List.setIfInBounds_toArray, List.set_cons_zero, List.set_cons_succ]
  refine hl_on (o := ?_) (v := ?_) ?_ ?_ (fun w hSw => ?_) ?_
  rotate_left 2
  (focus ((simp only [List.getElem?_toArray, List.getElem?_cons_succ, List.getElem?_cons_zero]); (try rfl); done))
  focus (rfl)
  focus (go_simp; (try with_reducible rfl); done)
  simp only [Act.put, List.setIfInBounds_toArray, List.set_cons_zero, List.set_cons_succ]
  refine hl_on (o := ?_) (v := ?_) ?_ ?_ (fun w hSw => ?_) ?_
  rotate_left 2
  (focus ((simp only [List.getElem?_toArray, List.getElem?_cons_succ, List.getElem?_cons_zero]); (try rfl); done))
  focus (rfl)
  focus (go_simp; (try with_reducible rfl); done)
  simp only [Act.put, List.setIfInBounds_toArray, List.set_cons_zero, List.set_cons_succ]
  refine hl_on (o := ?_) (v := ?_) ?_ ?_ (fun w hSw => ?_) ?_
  rotate_left 2
  (focus ((simp only [List.getElem?_toArray, List.getElem?_cons_succ, List.getElem?_cons_zero]); (try rfl); done))
  focus (rfl)
  focus (go_simp; (try with_reducible rfl); done)
  simp only [Act.put, List.setIfInBounds_toArray, List.set_cons_zero, List.set_cons_succ]
  refine hl_on (o := ?_) (v := ?_) ?_ ?_ (fun w hSw => ?_) ?_
  rotate_left 2
  (focus ((simp only [List.getElem?_toArray, List.getElem?_cons_succ, List.getElem?_cons_zero]); (try rfl); done))
  focus (rfl)
  focus (go_simp; (try with_reducible rfl); done)
  simp only [Act.put, List.setIfInBounds_toArray, List.set_cons_zero, List.set_cons_succ]
  refine hl_on (o := ?_) (v := ?_) ?_ ?_ (fun w hSw => ?_) ?_
  rotate_left 2
  (focus ((simp only [List.getElem?_toArray, List.getElem?_cons_succ, List.getElem?_cons_zero]); (try rfl); done))
  focus (rfl)
  focus (go_simp; (try with_reducible rfl); done)
  simp only [Act.put, List.setIfInBounds_toArray, List.set_cons_zero, List.set_cons_succ]
  refine hl_on (o := ?_) (v := ?_) ?_ ?_ (fun w hSw => ?_) ?_
  rotate_left 2
  (focus ((simp only [List.getElem?_toArray, List.getElem?_cons_succ, List.getElem?_cons_zero]); (try rfl); done))
  focus (rfl)
  focus (go_simp; (try with_reducible rfl); done)
  simp only [Act.put, List.setIfInBounds_toArray, List.set_cons_zero, List.set_cons_succ]
  refine hl_on (o := ?_) (v := ?_) ?_ ?_ (fun w hSw => ?_) ?_
  rotate_left 2
  (focus ((simp only [List.getElem?_toArray, List.getElem?_cons_succ, List.getElem?_cons_zero]); (try rfl); done))
  focus (rfl)
  focus (go_simp; (try with_reducible rfl); done)
  simp only [Act.put, List.setIfInBounds_toArray, List.set_cons_zero, List.set_cons_succ]
  refine hl_on (o := ?_) (v := ?_) ?_ ?_ (fun w hSw => ?_) ?_
  rotate_left 2
  (focus ((simp only [List.getElem?_toArray, List.getElem?_cons_succ, List.getElem?_cons_zero]); (try rfl); done))
  focus (rfl)
  focus (go_simp; (try with_reducible rfl); done)
  simp only [Act.put, List.setIfInBounds_toArray, List.set_cons_zero, List.set_cons_succ]
  refine hl_on (o := ?_) (v := ?_) ?_ ?_ (fun w hSw => ?_) ?_
  rotate_left 2
  (focus ((simp only [List.getElem?_toArray, List.getElem?_cons_succ, List.getElem?_cons_zero]); (try rfl); done))
  focus (rfl)
  focus (go_simp; (try with_reducible rfl); done)
  simp only [Act.put, List.setIfInBounds_toArray, List.set_cons_zero, List.set_cons_succ]
  refine hl_done_np ?_
  obtain ⟨w2, hw⟩ : ∃ x : World, x = w1.drew := ⟨_, rfl⟩
  rw [← hw]
  have F2 : Hid (Fr [] w w2) := Lib.hid (by rw [hw]; exact F1.out.drew)
  clear hw
  go_wp2_with fail
  refine (of_it _ _ xs _ (RX.out _ F2.out) (by omega)).mono ?_
  rintro e w3 ⟨⟨f1, rfl, hi⟩, hf⟩
  have F3 : Hid (Fr [] w w3) := Lib.hid (F2.out.trans0 hf)
  have If1 := Lib.hid hi
  clear hi
  clear hf
  go_wp2_with fail
  refine (take_it _ _ xs n _ If1.out (by omega)).mono ?_
  rintro e w4 ⟨⟨f2, rfl, hi⟩, hf⟩
  have F4 : Hid (Fr [] w w4) := Lib.hid (F3.out.trans0 hf)
  rw [HTK.out] at hi
  have If2 := Lib.hid hi
  clear hi
  clear hf
  go_wp2_with fail
  refine (all_n _ _ (xs.take kk) kk HLT.out _ If2.out (by omega)).mono ?_
  rintro e w5 ⟨⟨a1, c1, rfl, hv⟩, hf⟩
  have F5 : Hid (Fr [] w w5) := Lib.hid (F4.out.trans0 hf)
  have V1 := Lib.hid hv.reads
  clear hv
  clear hf
  go_wp2_with fail
  refine (of_it _ _ xs _ (RX.out _ F5.out) (by omega)).mono ?_
  rintro e w6 ⟨⟨f3, rfl, hi⟩, hf⟩
  have F6 : Hid (Fr [] w w6) := Lib.hid (F5.out.trans0 hf)
  have U1_6 := Lib.hid (V1.out.fr0 hf)
  have If3 := Lib.hid hi
  clear hi
  clear hf
  go_wp2_with fail
  refine (skip_it _ _ xs n _ If3.out (by omega)).mono ?_
  rintro e w7 ⟨⟨f4, rfl, hi⟩, hf⟩
  have F7 : Hid (Fr [] w w7) := Lib.hid (F6.out.trans0 hf)
  have U1_7 := Lib.hid (U1_6.out.fr0 hf)
  rw [HDK.out] at hi
  have If4 := Lib.hid hi
  clear hi
  clear hf
  go_wp2_with fail
  refine (all_n _ _ (xs.drop kk) (xs.length - kk) HLD.out _ If4.out (by omega)).mono ?_
  rintro e w8 ⟨⟨a2, c2, rfl, hv⟩, hf⟩
  have F8 : Hid (Fr [] w w8) := Lib.hid (F7.out.trans0 hf)
  have U1_8 := Lib.hid (U1_7.out.fr0 hf)
  have V2 := Lib.hid hv.reads
  clear hv
  clear hf
  go_wp2_with fail
  refine (of_it _ _ xs _ (RX.out _ F8.out) (by omega)).mono ?_
  rintro e w9 ⟨⟨f5, rfl, hi⟩, hf⟩
  have F9 : Hid (Fr [] w w9) := Lib.hid (F8.out.trans0 hf)
  have U1_9 := Lib.hid (U1_8.out.fr0 hf)
  have U2_9 := Lib.hid (V2.out.fr0 hf)
  have If5 := Lib.hid hi
  clear hi
  clear hf
  go_wp2_with fail
  refine (of_it _ _ ys _ (RY.out _ F9.out) (by omega)).mono ?_
  rintro e w10 ⟨⟨f6, rfl, hi⟩, hf⟩
  have F10 : Hid (Fr [] w w10) := Lib.hid (F9.out.trans0 hf)
  have U1_10 := Lib.hid (U1_9.out.fr0 hf)
  have U2_10 := Lib.hid (U2_9.out.fr0 hf)
  have If6 := Lib.hid hi
  have If5' := Lib.hid (If5.out.fr0 hf)
  clear hi
  clear hf
  go_wp2_with fail
  refine (both_it _ _ _ _ xs ys _ If5'.out If6.out).mono ?_
  rintro e w11 ⟨⟨f7, rfl, hi⟩, hf⟩
  have F11 : Hid (Fr [] w w11) := Lib.hid (F10.out.trans0 hf)
  have U1_11 := Lib.hid (U1_10.out.fr0 hf)
  have U2_11 := Lib.hid (U2_10.out.fr0 hf)
  have If7 := Lib.hid hi
  clear hi
  clear hf
  go_wp2_with fail
  refine (all_n _ _ (xs ++ ys) (xs.length + ys.length) (by rw [List.length_append]) _ If7.out (by omega)).mono ?_
  rintro e w12 ⟨⟨a3, c3, rfl, hv⟩, hf⟩
  have F12 : Hid (Fr [] w w12) := Lib.hid (F11.out.trans0 hf)
  have U1_12 := Lib.hid (U1_11.out.fr0 hf)
  have U2_12 := Lib.hid (U2_11.out.fr0 hf)
  have V3 := Lib.hid hv.reads
  clear hv
  clear hf
  go_upto_region 7 with (fail)
  refine wp_region_plan_np (fun _ => True) [(0, false), (1, true), (2, true), (5, true), (3, false), (4, false), (6, false), (7, true), (8, true), (9, true), (10, true), (11, true), (12, true), (13, false), (14, true), (15, true), (16, true), (17, true), (18, true), (19, true), (20, false), (21, true), (22, true), (23, true), (25, true), (27, true), (24, false), (26, false), (28, false), (29, false), (30, true), (31, true), (32, true), (35, true), (36, true), (33, false), (34, false), (37, true), (38, true), (39, true), (40, true), (42, true), (44, true), (45, true), (46, true), (41, false), (43, false), (47, false), (48, true), (49, true)] (by kernel_rfl) (by kernel_rfl) trivial ?_
  obtain ⟨w13, hw⟩ : ∃ x : World, x = w12.drew := ⟨_, rfl⟩
  rw [← hw]
  have F13 : Hid (Fr [] w w13) := Lib.hid (by rw [hw]; exact F12.out.drew)
  have hfd : Fr [] w12 w13 := by rw [hw]; exact (Fr.refl _ _).drew
  clear hw
  have U1_13 := Lib.hid (U1_12.out.fr0 hfd)
  have U2_13 := Lib.hid (U2_12.out.fr0 hfd)
  have U3_13 := Lib.hid (V3.out.fr0 hfd)
  clear hfd
  refine hl_heavy (o := ?_) ?_ ?_ (fun K hK => ?_)
  rotate_left 1
  (focus ((simp only [List.getElem?_toArray, List.getElem?_cons_succ, List.getElem?_cons_zero]); (try rfl); done))
  focus (rfl)
  go_simp
  refine (awake_any _).mono ?_
  rintro e w14 ⟨rfl, hf⟩
  have F14 : Hid (Fr [] w w14) := Lib.hid (F13.out.trans0 hf)
  have U1_14 := Lib.hid (U1_13.out.fr0 hf)
  have U2_14 := Lib.hid (U2_13.out.fr0 hf)
  have U3_14 := Lib.hid (U3_13.out.fr0 hf)
  clear U1_13 U2_13 U3_13
  clear hf
  refine hK.out _ _ trivial (fun _ => ?_)
  try simp only [Act.put, List.setIfInBounds_toArray, List.set_cons_zero, List.set_cons_succ]
  refine hl_on (o := ?_) (v := ?_) ?_ ?_ (fun w hSw => ?_) ?_
  rotate_left 2
  (focus ((simp only [List.getElem?_toArray, List.getElem?_cons_succ, List.getElem?_cons_zero]); (try rfl); done))
  focus (rfl)
  focus (go_simp; (try with_reducible rfl); done)
  simp only [Act.put, List.setIfInBounds_toArray, List.set_cons_zero, List.set_cons_succ]
  refine hl_on (o := ?_) (v := ?_) ?_ ?_ (fun w hSw => ?_) ?_
  rotate_left 2
  (focus ((simp only [List.getElem?_toArray, List.getElem?_cons_succ, List.getElem?_cons_zero]); (try rfl); done))
  focus (rfl)
  focus (go_simp; (try with_reducible rfl); done)
  simp only [Act.put, List.setIfInBounds_toArray, List.set_cons_zero, List.set_cons_succ]
  refine hl_on (o := ?_) (v := ?_) ?_ ?_ (fun w hSw => ?_) ?_
  rotate_left 2
  (focus ((simp only [List.getElem?_toArray, List.getElem?_cons_succ, List.getElem?_cons_zero]); (try rfl); done))
  focus (rfl)
  focus (go_simp; (try with_reducible rfl); done)
  simp only [Act.put, List.setIfInBounds_toArray, List.set_cons_zero, List.set_cons_succ]
  refine hl_heavy (o := ?_) ?_ ?_ (fun K hK => ?_)
  rotate_left 1
  (focus ((simp only [List.getElem?_toArray, List.getElem?_cons_succ, List.getElem?_cons_zero]); (try rfl); done))
  focus (rfl)
  go_simp
  refine (of_it _ _ xs _ (RX.out _ F14.out) (by omega)).mono ?_
  rintro e w15 ⟨⟨f8, rfl, hi⟩, hf⟩
  have F15 : Hid (Fr [] w w15) := Lib.hid (F14.out.trans0 hf)
  have If8 := Lib.hid hi
  clear hi
  have U1_15 := Lib.hid (U1_14.out.fr0 hf)
  have U2_15 := Lib.hid (U2_14.out.fr0 hf)
  have U3_15 := Lib.hid (U3_14.out.fr0 hf)
  clear U1_14 U2_14 U3_14
  clear hf
  refine hK.out _ _ trivial (fun _ => ?_)
  try simp only [Act.put, List.setIfInBounds_toArray, List.set_cons_zero, List.set_cons_succ]
  refine hl_heavy (o := ?_) ?_ ?_ (fun K hK => ?_)
  rotate_left 1
  (focus ((simp only [List.getElem?_toArray, List.getElem?_cons_succ, List.getElem?_cons_zero]); (try rfl); done))
  focus (rfl)
  go_simp
  refine (all_n _ _ xs xs.length rfl _ If8.out (by omega)).mono ?_
  rintro e w16 ⟨⟨a4, c4, rfl, hv⟩, hf⟩
  have F16 : Hid (Fr [] w w16) := Lib.hid (F15.out.trans0 hf)
  have V4 := Lib.hid hv.reads
  clear hv
  have U1_16 := Lib.hid (U1_15.out.fr0 hf)
  have U2_16 := Lib.hid (U2_15.out.fr0 hf)
  have U3_16 := Lib.hid (U3_15.out.fr0 hf)
  clear U1_15 U2_15 U3_15
  clear hf
  refine hK.out _ _ trivial (fun _ => ?_)
  try simp only [Act.put, List.setIfInBounds_toArray, List.set_cons_zero, List.set_cons_succ]
  refine hl_heavy (o := ?_) ?_ ?_ (fun K hK => ?_)
  rotate_left 1
  (focus ((simp only [List.getElem?_toArray, List.getElem?_cons_succ, List.getElem?_cons_zero]); (try rfl); done))
  focus (rfl)
  go_simp
  refine (same_true _ _ _ _ _ xs.length V4.out (RX.out _ F16.out).rd rfl (by omega)).mono ?_
  rintro e w17 ⟨rfl, hf⟩
  have F17 : Hid (Fr [] w w17) := Lib.hid (F16.out.trans0 hf)
  have U1_17 := Lib.hid (U1_16.out.fr0 hf)
  have U2_17 := Lib.hid (U2_16.out.fr0 hf)
  have U3_17 := Lib.hid (U3_16.out.fr0 hf)
  clear U1_16 U2_16 U3_16
  clear hf
  refine hK.out _ _ trivial (fun _ => ?_)
  try simp only [Act.put, List.setIfInBounds_toArray, List.set_cons_zero, List.set_cons_succ]
  refine hl_on (o := ?_) (v := ?_) ?_ ?_ (fun w hSw => ?_) ?_
  rotate_left 2
  (focus ((simp only [List.getElem?_toArray, List.getElem?_cons_succ, List.getElem?_cons_zero]); (try rfl); done))
  focus (rfl)
  focus (go_simp; (try with_reducible rfl); done)
  simp only [Act.put, List.setIfInBounds_toArray, List.set_cons_zero, List.set_cons_succ]
  refine hl_on (o := ?_) (v := ?_) ?_ ?_ (fun w hSw => ?_) ?_
  rotate_left 2
  (focus ((simp only [List.getElem?_toArray, List.getElem?_cons_succ, List.getElem?_cons_zero]); (try rfl); done))
  focus (rfl)
  focus (go_simp; (try with_reducible rfl); done)
  simp only [Act.put, List.setIfInBounds_toArray, List.set_cons_zero, List.set_cons_succ]
  refine hl_on (o := ?_) (v := ?_) ?_ ?_ (fun w hSw => ?_) ?_
  rotate_left 2
  (focus ((simp only [List.getElem?_toArray, List.getElem?_cons_succ, List.getElem?_cons_zero]); (try rfl); done))
  focus (rfl)
  focus (go_simp; (try with_reducible rfl); done)
  simp only [Act.put, List.setIfInBounds_toArray, List.set_cons_zero, List.set_cons_succ]
  refine hl_on (o := ?_) (v := ?_) ?_ ?_ (fun w hSw => ?_) ?_
  rotate_left 2
  (focus ((simp only [List.getElem?_toArray, List.getElem?_cons_succ, List.getElem?_cons_zero]); (try rfl); done))
  focus (rfl)
  focus (go_simp; (try with_reducible rfl); done)
  simp only [Act.put, List.setIfInBounds_toArray, List.set_cons_zero, List.set_cons_succ]
  refine hl_on (o := ?_) (v := ?_) ?_ ?_ (fun w hSw => ?_) ?_
  rotate_left 2
  (focus ((simp only [List.getElem?_toArray, List.getElem?_cons_succ, List.getElem?_cons_zero]); (try rfl); done))
  focus (rfl)
  focus (go_simp; (try with_reducible rfl); done)
  simp only [Act.put, List.setIfInBounds_toArray, List.set_cons_zero, List.set_cons_succ]
  refine hl_on (o := ?_) (v := ?_) ?_ ?_ (fun w hSw => ?_) ?_
  rotate_left 2
  (focus ((simp only [List.getElem?_toArray, List.getElem?_cons_succ, List.getElem?_cons_zero]); (try rfl); done))
  focus (rfl)
  focus (go_simp; (try with_reducible rfl); done)
  simp only [Act.put, List.setIfInBounds_toArray, List.set_cons_zero, List.set_cons_succ]
  refine hl_heavy (o := ?_) ?_ ?_ (fun K hK => ?_)
  rotate_left 1
  (focus ((simp only [List.getElem?_toArray, List.getElem?_cons_succ, List.getElem?_cons_zero]); (try rfl); done))
  focus (rfl)
  go_simp
  refine (same_true _ _ _ _ _ kk U1_17.out (RK.out _ F17.out) rfl (by omega)).mono ?_
  rintro e w18 ⟨rfl, hf⟩
  have F18 : Hid (Fr [] w w18) := Lib.hid (F17.out.trans0 hf)
  have U1_18 := Lib.hid (U1_17.out.fr0 hf)
  have U2_18 := Lib.hid (U2_17.out.fr0 hf)
  have U3_18 := Lib.hid (U3_17.out.fr0 hf)
  clear U1_17 U2_17 U3_17
  clear hf
  refine hK.out _ _ trivial (fun _ => ?_)
  try simp only [Act.put, List.setIfInBounds_toArray, List.set_cons_zero, List.set_cons_succ]
  refine hl_on (o := ?_) (v := ?_) ?_ ?_ (fun w hSw => ?_) ?_
  rotate_left 2
  (focus ((simp only [List.getElem?_toArray, List.getElem?_cons_succ, List.getElem?_cons_zero]); (try rfl); done))
  focus (rfl)
  focus (go_simp; (try with_reducible rfl); done)
  simp only [Act.put, List.setIfInBounds_toArray, List.set_cons_zero, List.set_cons_succ]
  refine hl_on (o := ?_) (v := ?_) ?_ ?_ (fun w hSw => ?_) ?_
  rotate_left 2
  (focus ((simp only [List.getElem?_toArray, List.getElem?_cons_succ, List.getElem?_cons_zero]); (try rfl); done))
  focus (rfl)
  focus (go_simp; (try with_reducible rfl); done)
  simp only [Act.put, List.setIfInBounds_toArray, List.set_cons_zero, List.set_cons_succ]
  refine hl_on (o := ?_) (v := ?_) ?_ ?_ (fun w hSw => ?_) ?_
  rotate_left 2
  (focus ((simp only [List.getElem?_toArray, List.getElem?_cons_succ, List.getElem?_cons_zero]); (try rfl); done))
  focus (rfl)
  focus (go_simp; (try with_reducible rfl); done)
  simp only [Act.put, List.setIfInBounds_toArray, List.set_cons_zero, List.set_cons_succ]
  refine hl_on (o := ?_) (v := ?_) ?_ ?_ (fun w hSw => ?_) ?_
  rotate_left 2
  (focus ((simp only [List.getElem?_toArray, List.getElem?_cons_succ, List.getElem?_cons_zero]); (try rfl); done))
  focus (rfl)
  focus (go_simp; (try with_reducible rfl); done)
  simp only [Act.put, List.setIfInBounds_toArray, List.set_cons_zero, List.set_cons_succ]
  refine hl_on (o := ?_) (v := ?_) ?_ ?_ (fun w hSw => ?_) ?_
  rotate_left 2
  (focus ((simp only [List.getElem?_toArray, List.getElem?_cons_succ, List.getElem?_cons_zero]); (try rfl); done))
  focus (rfl)
  focus (go_simp; (try with_reducible rfl); done)
  simp only [Act.put, List.setIfInBounds_toArray, List.set_cons_zero, List.set_cons_succ]
  refine hl_on (o := ?_) (v := .slice ac (xs.length - kk) (cl - kk)) ?_ ?_ (fun w hSw => ?_) ?_
  rotate_left 1
  (focus ((simp only [List.getElem?_toArray, List.getElem?_cons_succ, List.getElem?_cons_zero]); (try rfl); done))
  focus (rfl)
  focus (exact exec_cut (v := .slice al xs.length cl) (l := .int .i64 (kk : Int)) rfl rfl rfl _ (HCUT.out _))
  simp only [Act.put, List.setIfInBounds_toArray, List.set_cons_zero, List.set_cons_succ]
  refine hl_heavy (o := ?_) ?_ ?_ (fun K hK => ?_)
  rotate_left 1
  (focus ((simp only [List.getElem?_toArray, List.getElem?_cons_succ, List.getElem?_cons_zero]); (try rfl); done))
  focus (rfl)
  go_simp
  refine (same_true _ _ _ _ _ (xs.length - kk) U2_18.out (RC.out _ F18.out) rfl (by omega)).mono ?_
  rintro e w19 ⟨rfl, hf⟩
  have F19 : Hid (Fr [] w w19) := Lib.hid (F18.out.trans0 hf)
  have U1_19 := Lib.hid (U1_18.out.fr0 hf)
  have U2_19 := Lib.hid (U2_18.out.fr0 hf)
  have U3_19 := Lib.hid (U3_18.out.fr0 hf)
  clear U1_18 U2_18 U3_18
  clear hf
  refine hK.out _ _ trivial (fun _ => ?_)
  try simp only [Act.put, List.setIfInBounds_toArray, List.set_cons_zero, List.set_cons_succ]
  refine hl_on (o := ?_) (v := ?_) ?_ ?_ (fun w hSw => ?_) ?_
  rotate_left 2
  (focus ((simp only [List.getElem?_toArray, List.getElem?_cons_succ, List.getElem?_cons_zero]); (try rfl); done))
  focus (rfl)
  focus (go_simp; (try with_reducible rfl); done)
  simp only [Act.put, List.setIfInBounds_toArray, List.set_cons_zero, List.set_cons_succ]
  refine hl_on (o := ?_) (v := ?_) ?_ ?_ (fun w hSw => ?_) ?_
  rotate_left 2
  (focus ((simp only [List.getElem?_toArray, List.getElem?_cons_succ, List.getElem?_cons_zero]); (try rfl); done))
  focus (rfl)
  focus (go_simp; (try with_reducible rfl); done)
  simp only [Act.put, List.setIfInBounds_toArray, List.set_cons_zero, List.set_cons_succ]
  refine hl_on (o := ?_) (v := ?_) ?_ ?_ (fun w hSw => ?_) ?_
  rotate_left 2
  (focus ((simp only [List.getElem?_toArray, List.getElem?_cons_succ, List.getElem?_cons_zero]); (try rfl); done))
  focus (rfl)
  focus (go_simp; (try with_reducible rfl); done)
  simp only [Act.put, List.setIfInBounds_toArray, List.set_cons_zero, List.set_cons_succ]
  refine hl_on (o := ?_) (v := ?_) ?_ ?_ (fun w hSw => ?_) ?_
  rotate_left 2
  (focus ((simp only [List.getElem?_toArray, List.getElem?_cons_succ, List.getElem?_cons_zero]); (try rfl); done))
  focus (rfl)
  focus (go_simp; (try with_reducible rfl); done)
  simp only [Act.put, List.setIfInBounds_toArray, List.set_cons_zero, List.set_cons_succ]
  refine hl_on (o := ?_) (v := ?_) ?_ ?_ (fun w hSw => ?_) ?_
  rotate_left 2
  (focus ((simp only [List.getElem?_toArray, List.getElem?_cons_succ, List.getElem?_cons_zero]); (try rfl); done))
  focus (rfl)
  focus (go_simp; (try with_reducible rfl); done)
  simp only [Act.put, List.setIfInBounds_toArray, List.set_cons_zero, List.set_cons_succ]
  refine hl_heavy (o := ?_) ?_ ?_ (fun K hK => ?_)
  rotate_left 1
  (focus ((simp only [List.getElem?_toArray, List.getElem?_cons_succ, List.getElem?_cons_zero]); (try rfl); done))
  focus (rfl)
  go_simp
  refine hK.out _ _ trivial (fun _ => ?_)
  try simp only [Act.put, List.setIfInBounds_toArray, List.set_cons_zero, List.set_cons_succ]
  obtain ⟨w20, hw⟩ : ∃ x : World, x = w19.alloc (.cells #[] 3) := ⟨_, rfl⟩
  rw [← hw]
  have hf : Fr [] w19 w20 := by rw [hw]; exact (Fr.refl _ _).alloc _
  have F20 : Hid (Fr [] w w20) := Lib.hid (F19.out.trans0 hf)
  have KA20 : Hid (w19.heap.size ≤ w20.heap.size ∧ ∀ k, k < w19.heap.size → w20.heap[k]? = w19.heap[k]?) := Lib.hid ⟨hf.size, fun k hk => hf.block k hk (by simp)⟩
  have VN : Hid (View w20 w19.heap.size 3 1 (.slice (some ⟨w19.heap.size, 0, none⟩) 0 0) 0 []) := Lib.hid (by rw [hw]; exact View.of_blk (Blk.new w19 [] _) (Nat.le_refl _) rfl (by decide))
  clear hf hw
  refine hl_heavy (o := ?_) ?_ ?_ (fun K hK => ?_)
  rotate_left 1
  (focus ((simp only [List.getElem?_toArray, List.getElem?_cons_succ, List.getElem?_cons_zero]); (try rfl); done))
  focus (rfl)
  refine op_append_view _ (.tmp 70) (.tmp 71) 33 rfl w19.heap.size 3 i0 (.int .i64 0) 1 8 Try.underlying33 hi0 hz0 hz1 hz2 rfl _ _ 0 _ rfl VN.out _ xs.length _ rfl (RX.out _ F20.out).rd (ones _) (by unfold maxLen; omega) (by omega) KA20.out.1 ?_
  intro a5 c5 w21 hv hg
  rw [Nat.zero_add] at hv ⊢
  have F21 : Hid (Fr [] w w21) := Lib.hid (F20.out.grown hg (fun k hk => .inr (by have h1 := (VN.out.lt hk).1; have h2 := F19.out.size; omega)))
  have KA21 : Hid (w19.heap.size ≤ w21.heap.size ∧ ∀ k, k < w19.heap.size → w21.heap[k]? = w19.heap[k]?) := Lib.hid ⟨Nat.le_trans KA20.out.1 hg.size, keep_grown KA20.out.2 VN.out KA20.out.1 hg⟩
  have V5 := Lib.hid hv
  clear hv hg
  refine hK.out _ _ trivial (fun _ => ?_)
  try simp only [Act.put, List.setIfInBounds_toArray, List.set_cons_zero, List.set_cons_succ]
  refine hl_heavy (o := ?_) ?_ ?_ (fun K hK => ?_)
  rotate_left 1
  (focus ((simp only [List.getElem?_toArray, List.getElem?_cons_succ, List.getElem?_cons_zero]); (try rfl); done))
  focus (rfl)
  refine op_append_view _ (.tmp 72) (.tmp 73) 33 rfl w19.heap.size 3 i0 (.int .i64 0) 1 8 Try.underlying33 hi0 hz0 hz1 hz2 rfl _ _ xs.length _ rfl V5.out _ ys.length _ rfl (RY.out _ F21.out).rd (ones _) (by unfold maxLen; omega) (by omega) KA21.out.1 ?_
  intro a6 c6 w22 hv hg
  have F22 : Hid (Fr [] w w22) := Lib.hid (F21.out.grown hg (fun k hk => .inr (by have h1 := (V5.out.lt hk).1; have h2 := F19.out.size; omega)))
  have KA22 : Hid (w19.heap.size ≤ w22.heap.size ∧ ∀ k, k < w19.heap.size → w22.heap[k]? = w19.heap[k]?) := Lib.hid ⟨Nat.le_trans KA21.out.1 hg.size, keep_grown KA21.out.2 V5.out KA21.out.1 hg⟩
  have V6 := Lib.hid hv
  clear hv hg
  refine hK.out _ _ trivial (fun _ => ?_)
  try simp only [Act.put, List.setIfInBounds_toArray, List.set_cons_zero, List.set_cons_succ]
  have U3z : Hid (Reads w22 1 (.slice a3 (xs.length + ys.length) c3) (xs.length + ys.length) ((xs ++ ys).map (Value.int .i64))) := Lib.hid (U3_19.out.keep (B := w19.heap.size) (fun b o c' e hne => reads_lt U3_19.out e hne) KA22.out.2)
  have V6z : Hid (Reads w22 1 (.slice a6 (xs.length + ys.length) c6) (xs.length + ys.length) ((xs ++ ys).map (Value.int .i64))) := Lib.hid (by have h := V6.out.reads; rwa [List.nil_append, ← List.map_append] at h)
  refine hl_heavy (o := ?_) ?_ ?_ (fun K hK => ?_)
  rotate_left 1
  (focus ((simp only [List.getElem?_toArray, List.getElem?_cons_succ, List.getElem?_cons_zero]); (try rfl); done))
  focus (rfl)
  go_simp
  refine (same_true _ _ _ _ _ (xs.length + ys.length) U3z.out V6z.out rfl (by omega)).mono ?_
  rintro e w23 ⟨rfl, hf⟩
  have F23 : Hid (Fr [] w w23) := Lib.hid (F22.out.trans0 hf)
  clear hf
  refine hK.out _ _ trivial (fun _ => ?_)
  try simp only [Act.put, List.setIfInBounds_toArray, List.set_cons_zero, List.set_cons_succ]
  refine hl_on (o := ?_) (v := ?_) ?_ ?_ (fun w hSw => ?_) ?_
  rotate_left 2
  (focus ((simp only [List.getElem?_toArray, List.getElem?_cons_succ, List.getElem?_cons_zero]); (try rfl); done))
  focus (rfl)
  focus (go_simp; (try with_reducible rfl); done)
  simp only [Act.put, List.setIfInBounds_toArray, List.set_cons_zero, List.set_cons_succ]
  refine hl_on (o := ?_) (v := ?_) ?_ ?_ (fun w hSw => ?_) ?_
  rotate_left 2
  (focus ((simp only [List.getElem?_toArray, List.getElem?_cons_succ, List.getElem?_cons_zero]); (try rfl); done))
  focus (rfl)
  focus (go_simp; (try with_reducible rfl); done)
  simp only [Act.put, List.setIfInBounds_toArray, List.set_cons_zero, List.set_cons_succ]
  refine hl_on (o := ?_) (v := ?_) ?_ ?_ (fun w hSw => ?_) ?_
  rotate_left 2
  (focus ((simp only [List.getElem?_toArray, List.getElem?_cons_succ, List.getElem?_cons_zero]); (try rfl); done))
  focus (rfl)
  focus (go_simp; (try with_reducible rfl); done)
  simp only [Act.put, List.setIfInBounds_toArray, List.set_cons_zero, List.set_cons_succ]
  refine hl_on (o := ?_) (v := ?_) ?_ ?_ (fun w hSw => ?_) ?_
  rotate_left 2
  (focus ((simp only [List.getElem?_toArray, List.getElem?_cons_succ, List.getElem?_cons_zero]); (try rfl); done))
  focus (rfl)
  focus (go_simp; (try with_reducible rfl); done)
  simp only [Act.put, List.setIfInBounds_toArray, List.set_cons_zero, List.set_cons_succ]
  refine hl_on (o := ?_) (v := ?_) ?_ ?_ (fun w hSw => ?_) ?_
  rotate_left 2
  (focus ((simp only [List.getElem?_toArray, List.getElem?_cons_succ, List.getElem?_cons_zero]); (try rfl); done))
  focus (rfl)
  focus (go_simp; (try with_reducible rfl); done)
  simp only [Act.put, List.setIfInBounds_toArray, List.set_cons_zero, List.set_cons_succ]
  refine hl_heavy (o := ?_) ?_ ?_ (fun K hK => ?_)
  rotate_left 1
  (focus ((simp only [List.getElem?_toArray, List.getElem?_cons_succ, List.getElem?_cons_zero]); (try rfl); done))
  focus (rfl)
  go_simp
  refine (of_it _ _ xs _ (RX.out _ F23.out) (by omega)).mono ?_
  rintro e w24 ⟨⟨f9, rfl, hi⟩, hf⟩
  have F24 : Hid (Fr [] w w24) := Lib.hid (F23.out.trans0 hf)
  have If9 := Lib.hid hi
  clear hi
  clear hf
  refine hK.out _ _ trivial (fun _ => ?_)
  try simp only [Act.put, List.setIfInBounds_toArray, List.set_cons_zero, List.set_cons_succ]
  refine hl_heavy (o := ?_) ?_ ?_ (fun K hK => ?_)
  rotate_left 1
  (focus ((simp only [List.getElem?_toArray, List.getElem?_cons_succ, List.getElem?_cons_zero]); (try rfl); done))
  focus (rfl)
  go_simp
  refine (count_n _ _ xs xs.length rfl _ If9.out (by omega)).mono ?_
  rintro e w25 ⟨rfl, hf⟩
  have F25 : Hid (Fr [] w w25) := Lib.hid (F24.out.trans0 hf)
  clear hf
  refine hK.out _ _ trivial (fun _ => ?_)
  try simp only [Act.put, List.setIfInBounds_toArray, List.set_cons_zero, List.set_cons_succ]
  refine hl_on (o := ?_) (v := ?_) ?_ ?_ (fun w hSw => ?_) ?_
  rotate_left 2
  (focus ((simp only [List.getElem?_toArray, List.getElem?_cons_succ, List.getElem?_cons_zero]); (try rfl); done))
  focus (rfl)
  focus (go_simp; (try with_reducible rfl); done)
  simp only [Act.put, List.setIfInBounds_toArray, List.set_cons_zero, List.set_cons_succ]
  refine hl_on (o := ?_) (v := ?_) ?_ ?_ (fun w hSw => ?_) ?_
  rotate_left 2
  (focus ((simp only [List.getElem?_toArray, List.getElem?_cons_succ, List.getElem?_cons_zero]); (try rfl); done))
  focus (rfl)
  focus (go_simp; (try with_reducible rfl); done)
  simp only [Act.put, List.setIfInBounds_toArray, List.set_cons_zero, List.set_cons_succ]
  refine hl_on (o := ?_) (v := ?_) ?_ ?_ (fun w hSw => ?_) ?_
  rotate_left 2
  (focus ((simp only [List.getElem?_toArray, List.getElem?_cons_succ, List.getElem?_cons_zero]); (try rfl); done))
  focus (rfl)
  focus (go_simp; (try with_reducible rfl); done)
  simp only [Act.put, List.setIfInBounds_toArray, List.set_cons_zero, List.set_cons_succ]
  refine hl_on (o := ?_) (v := ?_) ?_ ?_ (fun w hSw => ?_) ?_
  rotate_left 2
  (focus ((simp only [List.getElem?_toArray, List.getElem?_cons_succ, List.getElem?_cons_zero]); (try rfl); done))
  focus (rfl)
  focus (go_simp; (try with_reducible rfl); done)
  simp only [Act.put, List.setIfInBounds_toArray, List.set_cons_zero, List.set_cons_succ]
  refine hl_on (o := ?_) (v := ?_) ?_ ?_ (fun w hSw => ?_) ?_
  rotate_left 2
  (focus ((simp only [List.getElem?_toArray, List.getElem?_cons_succ, List.getElem?_cons_zero]); (try rfl); done))
  focus (rfl)
  focus (go_simp; (try with_reducible rfl); done)
  simp only [Act.put, List.setIfInBounds_toArray, List.set_cons_zero, List.set_cons_succ]
  refine hl_on (o := ?_) (v := ?_) ?_ ?_ (fun w hSw => ?_) ?_
  rotate_left 2
  (focus ((simp only [List.getElem?_toArray, List.getElem?_cons_succ, List.getElem?_cons_zero]); (try rfl); done))
  focus (rfl)
  focus (go_simp; (try with_reducible rfl); done)
  simp only [Act.put, List.setIfInBounds_toArray, List.set_cons_zero, List.set_cons_succ]
  refine hl_on (o := ?_) (v := ?_) ?_ ?_ (fun w hSw => ?_) ?_
  rotate_left 2
  (focus ((simp only [List.getElem?_toArray, List.getElem?_cons_succ, List.getElem?_cons_zero]); (try rfl); done))
  focus (rfl)
  focus (go_simp; (try with_reducible rfl); done)
  simp only [Act.put, List.setIfInBounds_toArray, List.set_cons_zero, List.set_cons_succ]
  refine hl_on (o := ?_) (v := ?_) ?_ ?_ (fun w hSw => ?_) ?_
  rotate_left 2
  (focus ((simp only [List.getElem?_toArray, List.getElem?_cons_succ, List.getElem?_cons_zero]); (try rfl); done))
  focus (rfl)
  focus (go_simp; (try with_reducible rfl); done)
  simp only [Act.put, List.setIfInBounds_toArray, List.set_cons_zero, List.set_cons_succ]
  refine hl_heavy (o := ?_) ?_ ?_ (fun K hK => ?_)
  rotate_left 1
  (focus ((simp only [List.getElem?_toArray, List.getElem?_cons_succ, List.getElem?_cons_zero]); (try rfl); done))
  focus (rfl)
  go_simp
  refine (of_it _ _ xs _ (RX.out _ F25.out) (by omega)).mono ?_
  rintro e w26 ⟨⟨g1, rfl, hi⟩, hf⟩
  have F26 : Hid (Fr [] w w26) := Lib.hid (F25.out.trans0 hf)
  have Ig1 := Lib.hid hi
  clear hi
  clear hf
  refine hK.out _ _ trivial (fun _ => ?_)
  try simp only [Act.put, List.setIfInBounds_toArray, List.set_cons_zero, List.set_cons_succ]
  refine hl_heavy (o := ?_) ?_ ?_ (fun K hK => ?_)
  rotate_left 1
  (focus ((simp only [List.getElem?_toArray, List.getElem?_cons_succ, List.getElem?_cons_zero]); (try rfl); done))
  focus (rfl)
  go_simp
  refine (some_any _ _ xs n kk HKK.out _ Ig1.out hn2 (by omega)).mono ?_
  rintro e w27 ⟨⟨a7, c7, rfl, hv⟩, hf⟩
  have F27 : Hid (Fr [] w w27) := Lib.hid (F26.out.trans0 hf)
  have V7 := Lib.hid hv
  clear hv
  clear hf
  refine hK.out _ _ trivial (fun _ => ?_)
  try simp only [Act.put, List.setIfInBounds_toArray, List.set_cons_zero, List.set_cons_succ]
  refine hl_heavy (o := ?_) ?_ ?_ (fun K hK => ?_)
  rotate_left 1
  (focus ((simp only [List.getElem?_toArray, List.getElem?_cons_succ, List.getElem?_cons_zero]); (try rfl); done))
  focus (rfl)
  go_simp
  refine (same_true _ _ _ _ _ kk V7.out (RK.out _ F27.out) rfl (by omega)).mono ?_
  rintro e w28 ⟨rfl, hf⟩
  have F28 : Hid (Fr [] w w28) := Lib.hid (F27.out.trans0 hf)
  clear hf
  refine hK.out _ _ trivial (fun _ => ?_)
  try simp only [Act.put, List.setIfInBounds_toArray, List.set_cons_zero, List.set_cons_succ]
  refine hl_on (o := ?_) (v := ?_) ?_ ?_ (fun w hSw => ?_) ?_
  rotate_left 2
  (focus ((simp only [List.getElem?_toArray, List.getElem?_cons_succ, List.getElem?_cons_zero]); (try rfl); done))
  focus (rfl)
  focus (go_simp; (try with_reducible rfl); done)
  simp only [Act.put, List.setIfInBounds_toArray, List.set_cons_zero, List.set_cons_succ]
  refine hl_on (o := ?_) (v := ?_) ?_ ?_ (fun w hSw => ?_) ?_
  rotate_left 2
  (focus ((simp only [List.getElem?_toArray, List.getElem?_cons_succ, List.getElem?_cons_zero]); (try rfl); done))
  focus (rfl)
  focus (go_simp; (try with_reducible rfl); done)
  simp only [Act.put, List.setIfInBounds_toArray, List.set_cons_zero, List.set_cons_succ]
  refine hl_done_np ?_
  go_wp2
  go_ret
  exact ⟨rfl, F28.out⟩
end Go.Proofs.Ytcnoaflojojfkab.Seqs
