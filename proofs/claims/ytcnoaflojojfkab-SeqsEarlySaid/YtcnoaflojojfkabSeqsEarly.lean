/- SeqsEarly: loops over iterators that are left early: the walk of the law. No condition. -/
import Derived.Test.YtcnoaflojojfkabSeqsGot
import Derived.Test.YtcnoaflojojfkabBits
namespace Go.Proofs.Ytcnoaflojojfkab.Seqs
open Go.RowKit Go.Shelf
set_option linter.unusedVariables false
set_option linter.unusedSimpArgs false
set_option maxRecDepth 100000
attribute [local go_sem] Oper.semAt_some eq_fn eq_nil

theorem nums_at (Y : List Int) (i : Nat) : (nums Y)[i]? = Y[i]?.map fun x => ((i : Int), x) := by
  simp only [nums, List.getElem?_map, List.getElem?_zipIdx, Option.map_map, Nat.zero_add]
  rfl
theorem nums_snd (Y : List Int) : (nums Y).map Prod.snd = Y := by
  apply List.ext_getElem?
  intro i
  rw [List.getElem?_map, nums_at, Option.map_map]
  cases Y[i]? <;> rfl
theorem nums_lt3 (Y : List Int) (h : ∀ p ∈ nums Y, p.1 < 3) : (nums Y).map Prod.snd = Y.take 3 := by
  rw [nums_snd, List.take_of_length_le]
  refine Nat.le_of_not_lt (fun hl => ?_)
  have h1 := nums_at Y 3
  rw [List.getElem?_eq_getElem hl] at h1
  have := h _ (List.mem_of_getElem? h1)
  simp at this
theorem nums_stop (Y : List Int) (s : List (Int × Int)) (p : Int × Int) (hp : s ++ [p] <+: nums Y) (h3 : 3 ≤ p.1) (h : ∀ q ∈ s, q.1 < 3) : s.map Prod.snd = Y.take 3 := by
  have hs : s <+: nums Y := (List.prefix_append s [p]).trans hp
  have e := List.prefix_iff_eq_take.1 hs
  have hl : (s ++ [p]).length ≤ (nums Y).length := hp.length_le
  rw [List.length_append, List.length_singleton, nums_len] at hl
  have at_ : ∀ i, i < s.length + 1 → (s ++ [p])[i]? = (nums Y)[i]? := fun i hi => by
    obtain ⟨t, ht⟩ := hp
    rw [← ht]; exact (List.getElem?_append_left (by rw [List.length_append, List.length_singleton]; exact hi)).symm
  have hlast := at_ s.length (by omega)
  rw [List.getElem?_append_right (Nat.le_refl _), nums_at, List.getElem?_eq_getElem (by omega : s.length < Y.length)] at hlast
  simp at hlast
  have hp1 : p.1 = (s.length : Int) := by rw [hlast]
  have hle : s.length ≤ 3 := by
    refine Nat.le_of_not_lt (fun hl3 => ?_)
    have h1 := at_ 3 (by omega)
    rw [List.getElem?_append_left hl3, nums_at, List.getElem?_eq_getElem (by omega : 3 < Y.length)] at h1
    have := h _ (List.mem_of_getElem? h1)
    simp at this
  have h3' : s.length = 3 := by omega
  rw [e, h3', List.map_take, nums_snd]
theorem mark_fr {S : List Nat} {W W' : World} {N M : Nat} {x : Obj} (h : N ≤ M ∧ W.heap[M]? = some x) (hf : Fr S W W') (hn : M ∉ S) : N ≤ M ∧ W'.heap[M]? = some x :=
  ⟨h.1, (hf.block M (Array.getElem?_eq_some_iff.1 h.2).1 hn).trans h.2⟩
set_option maxHeartbeats 8000000 in
theorem early_walk (zl : List Int) (vl : Value) {w : World} (hrl : Reads w 1 vl zl.length (zl.map (Value.int .i64))) (_wl : ∀ x ∈ zl, (Lit.int .i64 x).wf = true) (hll : zl.length * 8 ≤ 140737488351232)
    (zm : List Int) (vm : Value) (hrm : Reads w 1 vm zm.length (zm.map (Value.int .i64))) (_wm : ∀ x ∈ zm, (Lit.int .i64 x).wf = true) (hlm : zm.length * 8 ≤ 140737488351232) (n : Int) (hwn : (Lit.int .i64 n).wf = true) :
    Calls Try.prog 9 #[vl, vm, .int .i64 n] w fun e w' => e = .returned (.bool true) ∧ Fr [] w w' := by
  obtain ⟨_, al, cl, rfl, hcl, hal⟩ := id hrl
  obtain ⟨_, am, cm, rfl, hcm, _⟩ := id hrm
  obtain ⟨xs, hxs⟩ : ∃ xs, xs = zl.take 9 := ⟨_, rfl⟩
  obtain ⟨ys, hys⟩ : ∃ ys, ys = zm.take 9 := ⟨_, rfl⟩
  have lx : xs.length = min 9 zl.length := by rw [hxs, List.length_take]
  have ly : ys.length = min 9 zm.length := by rw [hys, List.length_take]
  have tx : zl.take xs.length = xs := by rw [lx, hxs]; apply List.ext_getElem?; intro i; rw [List.getElem?_take, List.getElem?_take]; split <;> split <;> first | rfl | omega | (rw [List.getElem?_eq_none (by omega)])
  have ty : zm.take ys.length = ys := by rw [ly, hys]; apply List.ext_getElem?; intro i; rw [List.getElem?_take, List.getElem?_take]; split <;> split <;> first | rfl | omega | (rw [List.getElem?_eq_none (by omega)])
  have rx : Reads w 1 (.slice al xs.length cl) xs.length (xs.map (Value.int .i64)) := by have h := hrl.take1 xs.length (by omega); rwa [tx] at h
  have ry : Reads w 1 (.slice am ys.length cm) ys.length (ys.map (Value.int .i64)) := by have h := hrm.take1 ys.length (by omega); rwa [ty] at h
  obtain ⟨Dx, hdx⟩ := ReadsD.of rx
  obtain ⟨Dy, hdy⟩ := ReadsD.of ry
  have RX : Hid (∀ W, Fr [] w W → ReadsD W Dx (.slice al xs.length cl) xs) := Lib.hid (fun W h => hdx.fr0 h)
  have RY : Hid (∀ W, Fr [] w W → ReadsD W Dy (.slice am ys.length cm) ys) := Lib.hid (fun W h => hdy.fr0 h)
  have himx : imin (zl.length : Int) 9 = (xs.length : Int) := by rw [imin_eq]; omega
  have himy : imin (zm.length : Int) 9 = (ys.length : Int) := by rw [imin_eq]; omega
  have x9 : xs.length ≤ 9 := by omega
  have y9 : ys.length ≤ 9 := by omega
  have xc : xs.length ≤ cl := by omega
  have yc : ys.length ≤ cm := by omega
  have xc0 : (0 : Int) ≤ (xs.length : Int) := by omega
  have xc1 : (xs.length : Int) ≤ (cl : Int) := by omega
  have yc0 : (0 : Int) ≤ (ys.length : Int) := by omega
  have yc1 : (ys.length : Int) ≤ (cm : Int) := by omega
  obtain ⟨kk, hkk⟩ : ∃ kk : Nat, (kk : Int) = n % 16 := ⟨(n % 16).toNat, by omega⟩
  have hk16 : kk < 16 := by omega
  have hand : bits .and .i64 n 15 = (kk : Int) := by rw [and15, hkk]
  obtain ⟨i0, hi0, hz0, hz1, hz2⟩ := info_parts info_int
  have F0 : Hid (Fr [] w w) := Fr.refl _ _
  have KA0 : Hid True := trivial
  clear hrl hrm _wl _wm hwn hxs hys lx ly tx ty rx ry hdx hdy hkk hal
  refine calls_marks Try.func9 rfl ?_
  simp only [Try.ntmps9, List.size_toArray, List.length_cons, List.length_nil, Nat.reduceAdd, Nat.reduceSub, Array.replicate_succ, Array.replicate_zero, List.push_toArray, List.append_toArray, List.nil_append, List.cons_append]
  go_wp2_with fail
  refine (awake_any _).mono ?_
  rintro e w1 ⟨rfl, hf⟩
  have F1 : Hid (Fr [] w w1) := Lib.hid (F0.out.trans0 hf)
  clear hf
  go_upto_region 3 with (fail)
  refine wp_region_plan_np (fun _ => True) [(1, true), (2, true), (3, true), (4, true), (5, true), (7, true), (8, true), (9, true), (10, true), (11, true), (0, false), (6, false), (12, false), (13, true)] (by kernel_rfl) (by kernel_rfl) trivial ?_
  obtain ⟨w2, hw⟩ : ∃ x : World, x = w1.drew := ⟨_, rfl⟩
  rw [← hw]
  have F2 : Hid (Fr [] w w2) := Lib.hid (by rw [hw]; exact F1.out.drew)
  clear hw
  refine hl_on (o := ?_) (v := ?_) ?_ ?_ (fun w hSw => ?_) ?_
  rotate_left 2
  (focus ((simp only [List.getElem?_toArray, List.getElem?_cons_succ, List.getElem?_cons_zero]); (try rfl); done))
  focus (rfl)
  focus (go_simp; (try with_reducible rfl); done)
  simp only [Act.put, List.setIfInBounds_toArray, List.set_cons_zero, List.set_cons_succ]
  refine hl_on (o := ?_) (v := ?_) ?_ ?_ (fun w hSw => ?_) ?_
  rotate_left 2
  (focus ((simp only [List.getElem?_toArray, List.getElem?_cons_succ, List.getElem?_cons_zero]); (try rfl); done))
  focus (rfl)
  focus (go_simp; (try with_reducible rfl); done)
  simp only [Act.put, List.setIfInBounds_toArray, List.set_cons_zero, List.set_cons_succ]
  refine hl_on (o := ?_) (v := ?_) ?_ ?_ (fun w hSw => ?_) ?_
  rotate_left 2
  (focus ((simp only [List.getElem?_toArray, List.getElem?_cons_succ, List.getElem?_cons_zero]); (try rfl); done))
  focus (rfl)
  focus (go_simp; (try with_reducible rfl); done)
  simp only [Act.put, List.setIfInBounds_toArray, List.set_cons_zero, List.set_cons_succ]
  refine hl_on (o := ?_) (v := ?_) ?_ ?_ (fun w hSw => ?_) ?_
  rotate_left 2
  (focus ((simp only [List.getElem?_toArray, List.getElem?_cons_succ, List.getElem?_cons_zero]); (try rfl); done))
  focus (rfl)
  focus (go_simp; (try with_reducible rfl); done)
  simp only [Act.put, List.setIfInBounds_toArray, List.set_cons_zero, List.set_cons_succ]
  refine hl_on (o := ?_) (v := ?_) ?_ ?_ (fun w hSw => ?_) ?_
  rotate_left 2
  (focus ((simp only [List.getElem?_toArray, List.getElem?_cons_succ, List.getElem?_cons_zero]); (try rfl); done))
  focus (rfl)
  focus (go_simp; (try with_reducible rfl); done)
  simp only [Act.put, List.setIfInBounds_toArray, List.set_cons_zero, List.set_cons_succ]
  refine hl_on (o := ?_) (v := ?_) ?_ ?_ (fun w hSw => ?_) ?_
  rotate_left 2
  (focus ((simp only [List.getElem?_toArray, List.getElem?_cons_succ, List.getElem?_cons_zero]); (try rfl); done))
  focus (rfl)
  focus (go_simp; (try with_reducible rfl); done)
  simp only [Act.put, List.setIfInBounds_toArray, List.set_cons_zero, List.set_cons_succ]
  refine hl_on (o := ?_) (v := ?_) ?_ ?_ (fun w hSw => ?_) ?_
  rotate_left 2
  (focus ((simp only [List.getElem?_toArray, List.getElem?_cons_succ, List.getElem?_cons_zero]); (try rfl); done))
  focus (rfl)
  focus (go_simp; (try with_reducible rfl); done)
  simp only [Act.put, List.setIfInBounds_toArray, List.set_cons_zero, List.set_cons_succ]
  refine hl_on (o := ?_) (v := ?_) ?_ ?_ (fun w hSw => ?_) ?_
  rotate_left 2
  (focus ((simp only [List.getElem?_toArray, List.getElem?_cons_succ, List.getElem?_cons_zero]); (try rfl); done))
  focus (rfl)
  focus (go_simp; (try with_reducible rfl); done)
  simp only [Act.put, List.setIfInBounds_toArray, List.set_cons_zero, List.set_cons_succ]
  refine hl_on (o := ?_) (v := ?_) ?_ ?_ (fun w hSw => ?_) ?_
  rotate_left 2
  (focus ((simp only [List.getElem?_toArray, List.getElem?_cons_succ, List.getElem?_cons_zero]); (try rfl); done))
  focus (rfl)
  focus (go_simp; (try with_reducible rfl); done)
  simp only [Act.put, List.setIfInBounds_toArray, List.set_cons_zero, List.set_cons_succ]
  refine hl_on (o := ?_) (v := ?_) ?_ ?_ (fun w hSw => ?_) ?_
  rotate_left 2
  (focus ((simp only [List.getElem?_toArray, List.getElem?_cons_succ, List.getElem?_cons_zero]); (try rfl); done))
  focus (rfl)
  focus (go_simp; (try with_reducible rfl); done)
  simp only [Act.put, List.setIfInBounds_toArray, List.set_cons_zero, List.set_cons_succ]
  refine hl_heavy (o := ?_) ?_ ?_ (fun K hK => ?_)
  rotate_left 1
  (focus ((simp only [List.getElem?_toArray, List.getElem?_cons_succ, List.getElem?_cons_zero]); (try rfl); done))
  focus (rfl)
  go_simp
  refine hK.out _ _ trivial (fun _ => ?_)
  try simp only [Act.put, List.setIfInBounds_toArray, List.set_cons_zero, List.set_cons_succ]
  obtain ⟨w3, hw⟩ : ∃ x : World, x = w2.alloc (.cells #[] 3) := ⟨_, rfl⟩
  rw [← hw]
  have hf : Fr [] w2 w3 := by rw [hw]; exact (Fr.refl _ _).alloc _
  have F3 : Hid (Fr [] w w3) := Lib.hid (F2.out.trans0 hf)
  have KA3 : Hid (w2.heap.size ≤ w3.heap.size ∧ ∀ k, k < w2.heap.size → w3.heap[k]? = w2.heap[k]?) := Lib.hid ⟨hf.size, fun k hk => hf.block k hk (by simp)⟩
  have VN : Hid (View w3 w2.heap.size 3 1 (.slice (some ⟨w2.heap.size, 0, none⟩) 0 0) 0 []) := Lib.hid (by rw [hw]; exact View.of_blk (Blk.new w2 [] _) (Nat.le_refl _) rfl (by decide))
  clear hf hw
  refine hl_heavy (o := ?_) ?_ ?_ (fun K hK => ?_)
  rotate_left 1
  (focus ((simp only [List.getElem?_toArray, List.getElem?_cons_succ, List.getElem?_cons_zero]); (try rfl); done))
  focus (rfl)
  refine op_append_view _ (.tmp 19) (.tmp 24) 33 rfl w2.heap.size 3 i0 (.int .i64 0) 1 8 Try.underlying33 hi0 hz0 hz1 hz2 rfl _ _ 0 _ rfl VN.out _ xs.length _ rfl (RX.out _ F3.out).rd (ones _) (by unfold maxLen; omega) (by omega) KA3.out.1 ?_
  intro a5 c5 w4 hv hg
  rw [Nat.zero_add] at hv ⊢
  have F4 : Hid (Fr [] w w4) := Lib.hid (F3.out.grown hg (fun k hk => .inr (by have h1 := (VN.out.lt hk).1; have h2 := F2.out.size; omega)))
  have KA4 : Hid (w2.heap.size ≤ w4.heap.size ∧ ∀ k, k < w2.heap.size → w4.heap[k]? = w2.heap[k]?) := Lib.hid ⟨Nat.le_trans KA3.out.1 hg.size, keep_grown KA3.out.2 VN.out KA3.out.1 hg⟩
  have V5 := Lib.hid hv
  clear hv hg
  refine hK.out _ _ trivial (fun _ => ?_)
  try simp only [Act.put, List.setIfInBounds_toArray, List.set_cons_zero, List.set_cons_succ]
  refine hl_heavy (o := ?_) ?_ ?_ (fun K hK => ?_)
  rotate_left 1
  (focus ((simp only [List.getElem?_toArray, List.getElem?_cons_succ, List.getElem?_cons_zero]); (try rfl); done))
  focus (rfl)
  refine op_append_view _ (.tmp 25) (.tmp 30) 33 rfl w2.heap.size 3 i0 (.int .i64 0) 1 8 Try.underlying33 hi0 hz0 hz1 hz2 rfl _ _ xs.length _ rfl V5.out _ ys.length _ rfl (RY.out _ F4.out).rd (ones _) (by unfold maxLen; omega) (by omega) KA4.out.1 ?_
  intro a6 c6 w5 hv hg
  have F5 : Hid (Fr [] w w5) := Lib.hid (F4.out.grown hg (fun k hk => .inr (by have h1 := (V5.out.lt hk).1; have h2 := F2.out.size; omega)))
  have KA5 : Hid (w2.heap.size ≤ w5.heap.size ∧ ∀ k, k < w2.heap.size → w5.heap[k]? = w2.heap[k]?) := Lib.hid ⟨Nat.le_trans KA4.out.1 hg.size, keep_grown KA4.out.2 V5.out KA4.out.1 hg⟩
  have V6 := Lib.hid hv
  clear hv hg
  refine hK.out _ _ trivial (fun _ => ?_)
  try simp only [Act.put, List.setIfInBounds_toArray, List.set_cons_zero, List.set_cons_succ]
  refine hl_on (o := ?_) (v := ?_) ?_ ?_ (fun w hSw => ?_) ?_
  rotate_left 2
  (focus ((simp only [List.getElem?_toArray, List.getElem?_cons_succ, List.getElem?_cons_zero]); (try rfl); done))
  focus (rfl)
  focus (go_simp; (try with_reducible rfl); done)
  simp only [Act.put, List.setIfInBounds_toArray, List.set_cons_zero, List.set_cons_succ]
  refine hl_done_np ?_
  obtain ⟨X, hX⟩ : ∃ X, X = xs ++ ys := ⟨_, rfl⟩
  obtain ⟨m, hm⟩ : ∃ m, m = xs.length + ys.length := ⟨_, rfl⟩
  have hXm : X.length = m := by rw [hX, hm, List.length_append]
  have m18 : m ≤ 18 := by omega
  obtain ⟨Dz, hdz⟩ := ReadsD.of (zs := X) (by have h := V6.out.reads; rw [List.nil_append, ← List.map_append, ← hX, ← hm, ← hXm] at h; exact h)
  have RZ : Hid (∀ W, Fr [] w5 W → ReadsD W Dz (.slice a6 X.length c6) X) := Lib.hid (fun W h => hdz.fr0 h)
  rw [← hm, ← hXm]
  have x18 : X.length ≤ 18 := by omega
  have HXl : Hid (X.length ≤ 18) := Lib.hid (by omega)
  have HXd : Hid ((X.drop 2).length ≤ 18) := Lib.hid (by rw [List.length_drop]; omega)
  clear hXm m18
  have HDx : Hid (∀ b ∈ Dx, b < w.heap.size) := Lib.hid (RX.out w (Fr.refl _ _)).lt
  have HDy : Hid (∀ b ∈ Dy, b < w.heap.size) := Lib.hid (RY.out w (Fr.refl _ _)).lt
  have HDz : Hid (∀ b ∈ Dz, b < w5.heap.size) := Lib.hid hdz.lt
  clear hdz V6 V5 VN hm
  have HX := Lib.hid hX
  clear hX
  go_upto_region 6 with (fail)
  obtain ⟨w6, z, hz, hw6, hsz6, hf6, hA, hB, hC, hK⟩ := four w5 (kk : Int)
  rw [← hw6, ← hz]
  have hwz := F5.out.size
  rw [← hz] at hwz
  have HZ : Hid (w.heap.size ≤ z ∧ z = w5.heap.size ∧ w6.heap.size = z + 7) := ⟨hwz, hz, hsz6⟩
  have F6 : Hid (Fr [] w w6) := Lib.hid (F5.out.trans0 hf6)
  have Z6 := Lib.hid hf6
  have S6 : Hid (z + 7 ≤ w6.heap.size) := Nat.le_of_eq hsz6.symm
  have HA6 := Lib.hid hA
  have HB6 := Lib.hid hB
  have HC6 := Lib.hid hC
  have HK6 := Lib.hid hK
  clear hw6 hz hsz6 hf6 hA hB hC hK hwz
  refine wp_region_plan_np (fun _ => True) [(0, true), (1, true), (2, true), (3, true), (4, true), (6, true), (7, true), (8, true), (9, true), (10, true), (5, false), (11, false), (12, false)] (by kernel_rfl) (by kernel_rfl) trivial ?_
  obtain ⟨w7, hw⟩ : ∃ x : World, x = w6.drew := ⟨_, rfl⟩
  rw [← hw]
  have hf : Fr [] w6 w7 := by rw [hw]; exact (Fr.refl _ _).drew
  have F7 := Lib.hid (F6.out.trans0 hf)
  have Z7 := Lib.hid (Z6.out.trans0 hf)
  have S7 := Lib.hid (Nat.le_trans S6.out hf.size)
  have HA7 := Lib.hid (HA6.out.fr0 hf)
  have HB7 := Lib.hid (HB6.out.fr0 hf)
  have HC7 := Lib.hid (HC6.out.fr0 hf)
  have HK7 := Lib.hid (HK6.out.fr hf (by simp))
  clear F6 Z6 HA6 HB6 HC6 HK6
  clear hf hw
  refine hl_on (o := ?_) (v := ?_) ?_ ?_ (fun w hSw => ?_) ?_
  rotate_left 2
  (focus ((simp only [List.getElem?_toArray, List.getElem?_cons_succ, List.getElem?_cons_zero]); (try rfl); done))
  focus (rfl)
  focus (go_simp; (try with_reducible rfl); done)
  simp only [Act.put, List.setIfInBounds_toArray, List.set_cons_zero, List.set_cons_succ]
  refine hl_on (o := ?_) (v := ?_) ?_ ?_ (fun w hSw => ?_) ?_
  rotate_left 2
  (focus ((simp only [List.getElem?_toArray, List.getElem?_cons_succ, List.getElem?_cons_zero]); (try rfl); done))
  focus (rfl)
  focus (go_simp; (try with_reducible rfl); done)
  simp only [Act.put, List.setIfInBounds_toArray, List.set_cons_zero, List.set_cons_succ]
  refine hl_on (o := ?_) (v := ?_) ?_ ?_ (fun w hSw => ?_) ?_
  rotate_left 2
  (focus ((simp only [List.getElem?_toArray, List.getElem?_cons_succ, List.getElem?_cons_zero]); (try rfl); done))
  focus (rfl)
  focus (go_simp; (try with_reducible rfl); done)
  simp only [Act.put, List.setIfInBounds_toArray, List.set_cons_zero, List.set_cons_succ]
  refine hl_on (o := ?_) (v := ?_) ?_ ?_ (fun w hSw => ?_) ?_
  rotate_left 2
  (focus ((simp only [List.getElem?_toArray, List.getElem?_cons_succ, List.getElem?_cons_zero]); (try rfl); done))
  focus (rfl)
  focus (go_simp; (try with_reducible rfl); done)
  simp only [Act.put, List.setIfInBounds_toArray, List.set_cons_zero, List.set_cons_succ]
  refine hl_on (o := ?_) (v := ?_) ?_ ?_ (fun w hSw => ?_) ?_
  rotate_left 2
  (focus ((simp only [List.getElem?_toArray, List.getElem?_cons_succ, List.getElem?_cons_zero]); (try rfl); done))
  focus (rfl)
  focus (go_simp; (try with_reducible rfl); done)
  simp only [Act.put, List.setIfInBounds_toArray, List.set_cons_zero, List.set_cons_succ]
  refine hl_on (o := ?_) (v := ?_) ?_ ?_ (fun w hSw => ?_) ?_
  rotate_left 2
  (focus ((simp only [List.getElem?_toArray, List.getElem?_cons_succ, List.getElem?_cons_zero]); (try rfl); done))
  focus (rfl)
  focus (go_simp; (try with_reducible rfl); done)
  simp only [Act.put, List.setIfInBounds_toArray, List.set_cons_zero, List.set_cons_succ]
  refine hl_on (o := ?_) (v := ?_) ?_ ?_ (fun w hSw => ?_) ?_
  rotate_left 2
  (focus ((simp only [List.getElem?_toArray, List.getElem?_cons_succ, List.getElem?_cons_zero]); (try rfl); done))
  focus (rfl)
  focus (go_simp; (try with_reducible rfl); done)
  simp only [Act.put, List.setIfInBounds_toArray, List.set_cons_zero, List.set_cons_succ]
  refine hl_on (o := ?_) (v := ?_) ?_ ?_ (fun w hSw => ?_) ?_
  rotate_left 2
  (focus ((simp only [List.getElem?_toArray, List.getElem?_cons_succ, List.getElem?_cons_zero]); (try rfl); done))
  focus (rfl)
  focus (go_simp; (try with_reducible rfl); done)
  simp only [Act.put, List.setIfInBounds_toArray, List.set_cons_zero, List.set_cons_succ]
  refine hl_on (o := ?_) (v := ?_) ?_ ?_ (fun w hSw => ?_) ?_
  rotate_left 2
  (focus ((simp only [List.getElem?_toArray, List.getElem?_cons_succ, List.getElem?_cons_zero]); (try rfl); done))
  focus (rfl)
  focus (go_simp; (try with_reducible rfl); done)
  simp only [Act.put, List.setIfInBounds_toArray, List.set_cons_zero, List.set_cons_succ]
  refine hl_on (o := ?_) (v := ?_) ?_ ?_ (fun w hSw => ?_) ?_
  rotate_left 2
  (focus ((simp only [List.getElem?_toArray, List.getElem?_cons_succ, List.getElem?_cons_zero]); (try rfl); done))
  focus (rfl)
  focus (go_simp; (try with_reducible rfl); done)
  simp only [Act.put, List.setIfInBounds_toArray, List.set_cons_zero, List.set_cons_succ]
  refine hl_heavy (o := ?_) ?_ ?_ (fun K hK => ?_)
  rotate_left 1
  (focus ((simp only [List.getElem?_toArray, List.getElem?_cons_succ, List.getElem?_cons_zero]); (try rfl); done))
  focus (rfl)
  go_simp
  refine (of_it _ _ xs _ (RX.out _ F7.out) (by omega)).mono ?_
  rintro e w8 ⟨⟨f1, rfl, hi⟩, hf⟩
  have I1 := Lib.hid hi
  clear hi
  have F8 := Lib.hid (F7.out.trans0 hf)
  have Z8 := Lib.hid (Z7.out.trans0 hf)
  have S8 := Lib.hid (Nat.le_trans S7.out hf.size)
  have HA8 := Lib.hid (HA7.out.fr0 hf)
  have HB8 := Lib.hid (HB7.out.fr0 hf)
  have HC8 := Lib.hid (HC7.out.fr0 hf)
  have HK8 := Lib.hid (HK7.out.fr hf (by simp))
  clear F7 Z7 HA7 HB7 HC7 HK7
  clear hf
  refine hK.out _ _ trivial (fun _ => ?_)
  try simp only [Act.put, List.setIfInBounds_toArray, List.set_cons_zero, List.set_cons_succ]
  refine hl_heavy (o := ?_) ?_ ?_ (fun K hK => ?_)
  rotate_left 1
  (focus ((simp only [List.getElem?_toArray, List.getElem?_cons_succ, List.getElem?_cons_zero]); (try rfl); done))
  focus (rfl)
  go_simp
  refine (of_it _ _ ys _ (RY.out _ F8.out) (by omega)).mono ?_
  rintro e w9 ⟨⟨f2, rfl, hi⟩, hf⟩
  have I2 := Lib.hid hi
  have I1' := Lib.hid (I1.out.fr0 hf)
  clear hi
  have F9 := Lib.hid (F8.out.trans0 hf)
  have Z9 := Lib.hid (Z8.out.trans0 hf)
  have S9 := Lib.hid (Nat.le_trans S8.out hf.size)
  have HA9 := Lib.hid (HA8.out.fr0 hf)
  have HB9 := Lib.hid (HB8.out.fr0 hf)
  have HC9 := Lib.hid (HC8.out.fr0 hf)
  have HK9 := Lib.hid (HK8.out.fr hf (by simp))
  clear F8 Z8 HA8 HB8 HC8 HK8
  clear hf
  refine hK.out _ _ trivial (fun _ => ?_)
  try simp only [Act.put, List.setIfInBounds_toArray, List.set_cons_zero, List.set_cons_succ]
  refine hl_heavy (o := ?_) ?_ ?_ (fun K hK => ?_)
  rotate_left 1
  (focus ((simp only [List.getElem?_toArray, List.getElem?_cons_succ, List.getElem?_cons_zero]); (try rfl); done))
  focus (rfl)
  go_simp
  refine (both_it _ _ _ _ xs ys _ I1'.out I2.out).mono ?_
  rintro e w10 ⟨⟨f3, rfl, hi⟩, hf⟩
  rw [← HX.out] at hi
  have I3 := Lib.hid hi
  clear hi
  have F10 := Lib.hid (F9.out.trans0 hf)
  have Z10 := Lib.hid (Z9.out.trans0 hf)
  have S10 := Lib.hid (Nat.le_trans S9.out hf.size)
  have HA10 := Lib.hid (HA9.out.fr0 hf)
  have HB10 := Lib.hid (HB9.out.fr0 hf)
  have HC10 := Lib.hid (HC9.out.fr0 hf)
  have HK10 := Lib.hid (HK9.out.fr hf (by simp))
  clear F9 Z9 HA9 HB9 HC9 HK9
  clear hf
  refine hK.out _ _ trivial (fun _ => ?_)
  try simp only [Act.put, List.setIfInBounds_toArray, List.set_cons_zero, List.set_cons_succ]
  refine hl_done_np ?_
  obtain ⟨gf0, lb0, rfl, hent, hDs, hseq⟩ := I3.out
  have HS0 := Lib.hid hseq
  have HE0 : Hid (∀ args w, (callFunc gf0 args).run Try.prog w = .ok (.enter gf0 args) w) := hent
  have HD0 : Hid (∀ b ∈ _, b < w10.heap.size ∧ (b < z ∨ z + 7 ≤ b)) := Lib.hid (fun b hb => ⟨hDs b hb, by
    simp only [List.mem_cons, List.mem_append] at hb
    have h1 := HDx.out b; have h2 := HDy.out b; have h3 := HZ.out; have h4 := S9.out; have h7 := S7.out; have h8 := S8.out
    rcases hb with rfl | rfl | (rfl | hb) | (rfl | hb) <;> first | omega | (have := h1 hb; omega) | (have := h2 hb; omega)⟩)
  clear hent hDs hseq
  go_upto_block 0 with (fail)
  refine' wp_loop_block (w0 := w10) (O0 := fun b => b = z + 1 + 1 + 1 ∨ b = z) (T := []) rfl HE0.out (HS0.out w10 _ (Nat.le_refl _) (fun b _ => rfl) (fun b hb => by have := S10.out; rcases hb with rfl | rfl <;> omega) (fun b hb h => by have := HD0.out b hb; rcases h with rfl | rfl <;> omega))
    (fun b hb => by have := S10.out; rcases hb with rfl | rfl <;> omega) (by simp) (Below.refl _ _) (by intro x; rfl)
    (fun pre O V => pre.length ≤ kk ∧ Got w10 (z + 1 + 1 + 1) (z) z pre O V) (fun c pre O V => c = .exit 0 ∧ pre.length = kk + 1 ∧ Got w10 (z + 1 + 1 + 1) (z) z (pre.take kk) O V)
    (fun s O A V h hk => ⟨h.1, h.2.keeps hk⟩) (fun c s O A V h hk => ⟨h.1, h.2.1, h.2.2.keeps hk⟩)
    ⟨Nat.zero_le _, HA10.out.got (by omega)⟩ (fun s W W' h _ => h) (fun s W W' h _ => h)
    (fun D V => w10.heap.size ≤ D ∧ (∃ O, Got w10 (z + 1 + 1 + 1) (z) z ((X).take kk) O V) ∧ V.heap[D]? = some (.deferred (some []))) _ ?assign ?body ?done ?stop ?tail
  case assign =>
    intro l x V K hK
    gi_wp2
    exact hK
  case body =>
    rintro l pre x O V ⟨hle, hG⟩ hlt hsz hOV
    have HG := Lib.hid hG
    obtain ⟨⟨u, hu, hV, hown⟩, hfr, hOL, hold⟩ := hG
    obtain ⟨ua, uc, rfl⟩ := hV.form
    obtain ⟨k, hk⟩ : ∃ k, k = pre.length := ⟨_, rfl⟩
    rw [← hk] at hlt hle hV hown hu
    have hcu := hu.cell_at (o := 0) rfl
    have hck := (HK10.out.fr hfr (by simp <;> omega)).cell_at (o := 0) rfl
    have hkx : k ≤ 100 := by have := HXl.out; omega
    have HV := Lib.hid hV
    have hBs : z ≤ V.heap.size := by have := S10.out; omega
    have FIN := Lib.hid (fun (V5 : World) (a5 : Option Addr) (c5 : Nat) h5 hg ho => Got.push (x := x) (V5 := V5) (a5 := a5) (c5 := c5) hk ⟨by omega, by have := S10.out; omega⟩ hu hV hown hfr hOL hold h5 hg ho)
    have HKL := Lib.hid hk
    clear hu hV hown hfr hOL hold hOV hk
    by_cases hgt : k = kk
    · have hd1 : kk ≤ k := by omega
      have HGT := Lib.hid hgt
      clear FIN hgt
      gi_wp2
      refine ⟨Keeps.refl _ _, rfl, ?_, ?_⟩
      · rw [List.length_append, List.length_singleton, ← HKL.out, HGT.out]
      · rw [List.take_append_of_le_length (by rw [← HKL.out, HGT.out]; exact Nat.le_refl _), List.take_of_length_le (by rw [← HKL.out, HGT.out]; exact Nat.le_refl _)]
        have h := HG.out
        first | exact h | exact ⟨h.out.imp fun u h => ⟨h.1, h.2.1, fun g hg => ⟨.inl (h.2.2 g hg).1, (h.2.2 g hg).2⟩⟩, h.fr, .inl h.own, fun b hb h2 => h2.elim (h.old b hb) (fun h3 => by omega)⟩
    · have hd1 : ¬ kk ≤ k := by omega
      have HGT : Hid (k + 1 ≤ kk) := (by omega : k + 1 ≤ kk)
      clear hgt
      gi_wp2_with (first | (gi_at_builtin; refine wpListIn_append_view _ rfl (.tmp 55) (.tmp 57) 33 rfl z 3 i0 (.int .i64 0) 1 8 Try.underlying33 hi0 hz0 hz1 hz2 rfl _ _ _ _ rfl (HV.out.alloc _) _ 1 [.int .i64 x] rfl (reads_one _ _ _) (by simp [Value.oneCell']) (by unfold maxLen; omega) (by omega) (by simp; omega) ?_; intro a5 c5 w5 hv5 hg5 ho5; obtain ⟨hb1, hfin⟩ := FIN.out _ _ _ hv5 hg5 ho5; have hc1 := hb1.cell_at (o := 0) rfl; have hf1 := hb1.thawed 0; have HFIN := Lib.hid hfin; clear hfin hb1 hv5 hg5 ho5))
      obtain ⟨h1, h2⟩ := HFIN.out _ rfl
      exact ⟨h1, by rw [List.length_append, List.length_singleton, ← HKL.out]; exact HGT.out, h2⟩
  case done =>
    rintro D zs O V ⟨hD, hnO, _⟩ rfl ⟨hle, hG⟩ hK
    refine ⟨hD, ⟨O, ?_⟩, hK⟩
    rw [List.take_of_length_le hle]
    exact hG
  case stop =>
    rintro D c pre O V ⟨hD, hnO⟩ hSp ⟨rfl, hl, hG⟩ hK
    refine .inl ⟨rfl, hD, ⟨O, ?_⟩, hK⟩
    have hp : pre <+: X := hSp
    rw [List.prefix_iff_eq_take.1 hp, List.take_take, hl, Nat.min_eq_left (by omega)] at hG
    exact hG
  case tail =>
  rintro M0 w11 ⟨hM, ⟨O, hG⟩, hMK⟩
  obtain ⟨u0, hh⟩ := hG.held (bad := [z + 1 + 1 + 1 + 1, z + 1, z + 1 + 1 + 1 + 1 + 1, z + 1 + 1]) (by have := S10.out; simp <;> omega)
  have hf := hG.fr
  have F11 := Lib.hid (F10.out.trans hf (by have := HZ.out; simp; omega))
  have Z11 := Lib.hid (Z10.out.trans hf (by have := HZ.out; simp; omega))
  have S11 := Lib.hid (Nat.le_trans S10.out hf.size)
  have HA11 := Lib.hid hh
  have HB11 := Lib.hid (HB10.out.fr hf (by simp))
  have HC11 := Lib.hid (HC10.out.fr hf (by simp))
  have HK11 := Lib.hid (HK10.out.fr hf (by simp <;> omega))
  have HM0_11 : Hid (z + 7 ≤ M0 ∧ w11.heap[M0]? = some (.deferred (some []))) := ⟨by have := S10.out; omega, hMK⟩
  clear hG hh hf hM hMK
  go_wp2_with fail
  refine (of_it _ _ X _ (RZ.out _ Z11.out) (by omega)).mono ?_
  rintro e w12 ⟨⟨g1, rfl, hi⟩, hf⟩
  have G1 := Lib.hid hi
  clear hi
  have F12 := Lib.hid (F11.out.trans0 hf)
  have Z12 := Lib.hid (Z11.out.trans0 hf)
  have S12 := Lib.hid (Nat.le_trans S11.out hf.size)
  have HA12 := Lib.hid (HA11.out.fr0 hf)
  have HB12 := Lib.hid (HB11.out.fr0 hf)
  have HC12 := Lib.hid (HC11.out.fr0 hf)
  have HK12 := Lib.hid (HK11.out.fr hf (by simp))
  have HM0_12 := Lib.hid (mark_fr HM0_11.out hf (by simp))
  clear HM0_11
  clear F11 Z11 HA11 HB11 HC11 HK11
  clear hf
  go_wp2_with fail
  refine (skip_it _ _ X 2 _ G1.out (by omega)).mono ?_
  rintro e w13 ⟨⟨g2, rfl, hi⟩, hf⟩
  rw [show (2 : Int).toNat = 2 from rfl] at hi
  have G2 := Lib.hid hi
  clear hi
  have F13 := Lib.hid (F12.out.trans0 hf)
  have Z13 := Lib.hid (Z12.out.trans0 hf)
  have S13 := Lib.hid (Nat.le_trans S12.out hf.size)
  have HA13 := Lib.hid (HA12.out.fr0 hf)
  have HB13 := Lib.hid (HB12.out.fr0 hf)
  have HC13 := Lib.hid (HC12.out.fr0 hf)
  have HK13 := Lib.hid (HK12.out.fr hf (by simp))
  have HM0_13 := Lib.hid (mark_fr HM0_12.out hf (by simp))
  clear HM0_12
  clear F12 Z12 HA12 HB12 HC12 HK12
  clear hf
  obtain ⟨gf2, lb2, rfl, hent, hDs, hseq⟩ := G2.out
  have HS2 := Lib.hid hseq
  have HE2 : Hid (∀ args w, (callFunc gf2 args).run Try.prog w = .ok (.enter gf2 args) w) := hent
  have HD2 : Hid (∀ b ∈ _, b < w13.heap.size ∧ (b < z ∨ z + 7 ≤ b)) := Lib.hid (fun b hb => ⟨hDs b hb, by
    simp only [List.mem_cons] at hb
    have h1 := HDz.out b; have h3 := HZ.out; have h4 := S11.out; have h5 := S12.out
    rcases hb with rfl | rfl | rfl | hb <;> first | omega | (have := h1 hb; omega)⟩)
  clear hent hDs hseq
  go_upto_block 2 with (fail)
  refine' wp_loop_block (w0 := w13) (O0 := fun b => b = z + 1 + 1 + 1 + 1 ∨ b = z + 1) (T := []) rfl HE2.out (HS2.out w13 _ (Nat.le_refl _) (fun b _ => rfl) (fun b hb => by have := S13.out; rcases hb with rfl | rfl <;> omega) (fun b hb h => by have := HD2.out b hb; rcases h with rfl | rfl <;> omega))
    (fun b hb => by have := S13.out; rcases hb with rfl | rfl <;> omega) (by simp) (Below.refl _ _) (by intro x; rfl)
    (fun pre O V => pre.length ≤ kk ∧ Got w13 (z + 1 + 1 + 1 + 1) (z + 1) z pre O V) (fun c pre O V => c = .exit 2 ∧ pre.length = kk + 1 ∧ Got w13 (z + 1 + 1 + 1 + 1) (z + 1) z (pre.take kk) O V)
    (fun s O A V h hk => ⟨h.1, h.2.keeps hk⟩) (fun c s O A V h hk => ⟨h.1, h.2.1, h.2.2.keeps hk⟩)
    ⟨Nat.zero_le _, HB13.out.got (by omega)⟩ (fun s W W' h _ => h) (fun s W W' h _ => h)
    (fun D V => w13.heap.size ≤ D ∧ (∃ O, Got w13 (z + 1 + 1 + 1 + 1) (z + 1) z ((X.drop 2).take kk) O V) ∧ V.heap[D]? = some (.deferred (some []))) _ ?assign ?body ?done ?stop ?tail
  case assign =>
    intro l x V K hK
    gi_wp2
    exact hK
  case body =>
    rintro l pre x O V ⟨hle, hG⟩ hlt hsz hOV
    have HG := Lib.hid hG
    obtain ⟨⟨u, hu, hV, hown⟩, hfr, hOL, hold⟩ := hG
    obtain ⟨ua, uc, rfl⟩ := hV.form
    obtain ⟨k, hk⟩ : ∃ k, k = pre.length := ⟨_, rfl⟩
    rw [← hk] at hlt hle hV hown hu
    have hcu := hu.cell_at (o := 0) rfl
    have hck := (HK13.out.fr hfr (by simp <;> omega)).cell_at (o := 0) rfl
    have hkx : k ≤ 100 := by have := HXd.out; omega
    have HV := Lib.hid hV
    have hBs : z ≤ V.heap.size := by have := S13.out; omega
    have FIN := Lib.hid (fun (V5 : World) (a5 : Option Addr) (c5 : Nat) h5 hg ho => Got.push (x := x) (V5 := V5) (a5 := a5) (c5 := c5) hk ⟨by omega, by have := S13.out; omega⟩ hu hV hown hfr hOL hold h5 hg ho)
    have HKL := Lib.hid hk
    clear hu hV hown hfr hOL hold hOV hk
    by_cases hgt : k = kk
    · have hd1 : kk ≤ k := by omega
      have HGT := Lib.hid hgt
      clear FIN hgt
      gi_wp2
      refine ⟨Keeps.refl _ _, rfl, ?_, ?_⟩
      · rw [List.length_append, List.length_singleton, ← HKL.out, HGT.out]
      · rw [List.take_append_of_le_length (by rw [← HKL.out, HGT.out]; exact Nat.le_refl _), List.take_of_length_le (by rw [← HKL.out, HGT.out]; exact Nat.le_refl _)]
        have h := HG.out
        first | exact h | exact ⟨h.out.imp fun u h => ⟨h.1, h.2.1, fun g hg => ⟨.inl (h.2.2 g hg).1, (h.2.2 g hg).2⟩⟩, h.fr, .inl h.own, fun b hb h2 => h2.elim (h.old b hb) (fun h3 => by omega)⟩
    · have hd1 : ¬ kk ≤ k := by omega
      have HGT : Hid (k + 1 ≤ kk) := (by omega : k + 1 ≤ kk)
      clear hgt
      gi_wp2_with (first | (gi_at_builtin; refine wpListIn_append_view _ rfl (.tmp 67) (.tmp 69) 33 rfl z 3 i0 (.int .i64 0) 1 8 Try.underlying33 hi0 hz0 hz1 hz2 rfl _ _ _ _ rfl (HV.out.alloc _) _ 1 [.int .i64 x] rfl (reads_one _ _ _) (by simp [Value.oneCell']) (by unfold maxLen; omega) (by omega) (by simp; omega) ?_; intro a5 c5 w5 hv5 hg5 ho5; obtain ⟨hb1, hfin⟩ := FIN.out _ _ _ hv5 hg5 ho5; have hc1 := hb1.cell_at (o := 0) rfl; have hf1 := hb1.thawed 0; have HFIN := Lib.hid hfin; clear hfin hb1 hv5 hg5 ho5))
      obtain ⟨h1, h2⟩ := HFIN.out _ rfl
      exact ⟨h1, by rw [List.length_append, List.length_singleton, ← HKL.out]; exact HGT.out, h2⟩
  case done =>
    rintro D zs O V ⟨hD, hnO, _⟩ rfl ⟨hle, hG⟩ hK
    refine ⟨hD, ⟨O, ?_⟩, hK⟩
    rw [List.take_of_length_le hle]
    exact hG
  case stop =>
    rintro D c pre O V ⟨hD, hnO⟩ hSp ⟨rfl, hl, hG⟩ hK
    refine .inl ⟨rfl, hD, ⟨O, ?_⟩, hK⟩
    have hp : pre <+: X.drop 2 := hSp
    rw [List.prefix_iff_eq_take.1 hp, List.take_take, hl, Nat.min_eq_left (by omega)] at hG
    exact hG
  case tail =>
  rintro M2 w14 ⟨hM, ⟨O, hG⟩, hMK⟩
  obtain ⟨u2, hh⟩ := hG.held (bad := [z + 1 + 1 + 1, z, z + 1 + 1 + 1 + 1 + 1, z + 1 + 1]) (by have := S13.out; simp <;> omega)
  have hf := hG.fr
  have F14 := Lib.hid (F13.out.trans hf (by have := HZ.out; simp; omega))
  have Z14 := Lib.hid (Z13.out.trans hf (by have := HZ.out; simp; omega))
  have S14 := Lib.hid (Nat.le_trans S13.out hf.size)
  have HA14 := Lib.hid (HA13.out.fr hf (by simp))
  have HB14 := Lib.hid hh
  have HC14 := Lib.hid (HC13.out.fr hf (by simp))
  have HK14 := Lib.hid (HK13.out.fr hf (by simp <;> omega))
  have HM0_14 := Lib.hid (mark_fr HM0_13.out hf (by have := HM0_13.out.1; simp; omega))
  have DHM02 : Hid (M0 ≠ M2) := Lib.hid (by have := (Array.getElem?_eq_some_iff.1 HM0_13.out.2).1; omega)
  have HM2_14 : Hid (z + 7 ≤ M2 ∧ w14.heap[M2]? = some (.deferred (some []))) := ⟨by have := S13.out; omega, hMK⟩
  clear hG hh hf hM hMK
  clear x18
  have x18 : X.length ≤ 18 := HXl.out
  go_upto_region 14 with (fail)
  refine wp_region_plan_np (fun w => w.cell? ⟨z + 1 + 1 + 1 + 1 + 1 + 1, 0, none⟩ = some (.int .i64 (kk : Int))) [(0, true), (2, true), (1, false), (3, false), (4, false)] (by kernel_rfl) (by kernel_rfl) (HK14.out.cell_at (o := 0) rfl) ?_
  obtain ⟨w15, hw⟩ : ∃ x : World, x = w14.drew := ⟨_, rfl⟩
  rw [← hw]
  have hf : Fr [] w14 w15 := by rw [hw]; exact (Fr.refl _ _).drew
  have F15 := Lib.hid (F14.out.trans0 hf)
  have Z15 := Lib.hid (Z14.out.trans0 hf)
  have S15 := Lib.hid (Nat.le_trans S14.out hf.size)
  have HA15 := Lib.hid (HA14.out.fr0 hf)
  have HB15 := Lib.hid (HB14.out.fr0 hf)
  have HC15 := Lib.hid (HC14.out.fr0 hf)
  have HK15 := Lib.hid (HK14.out.fr hf (by simp))
  have HM0_15 := Lib.hid (mark_fr HM0_14.out hf (by simp))
  clear HM0_14
  have HM2_15 := Lib.hid (mark_fr HM2_14.out hf (by simp))
  clear HM2_14
  clear F14 Z14 HA14 HB14 HC14 HK14
  clear hf hw
  refine hl_on (o := ?_) (v := ?_) ?_ ?_ (fun w hSw => ?_) ?_
  rotate_left 2
  (focus ((simp only [List.getElem?_toArray, List.getElem?_cons_succ, List.getElem?_cons_zero]); (try rfl); done))
  focus (rfl)
  focus (go_simp; (try with_reducible rfl); done)
  simp only [Act.put, List.setIfInBounds_toArray, List.set_cons_zero, List.set_cons_succ]
  refine hl_on (o := ?_) (v := ?_) ?_ ?_ (fun w hSw => ?_) ?_
  rotate_left 2
  (focus ((simp only [List.getElem?_toArray, List.getElem?_cons_succ, List.getElem?_cons_zero]); (try rfl); done))
  focus (rfl)
  focus (go_simp; (try with_reducible rfl); done)
  simp only [Act.put, List.setIfInBounds_toArray, List.set_cons_zero, List.set_cons_succ]
  refine hl_heavy (o := ?_) ?_ ?_ (fun K hK => ?_)
  rotate_left 1
  (focus ((simp only [List.getElem?_toArray, List.getElem?_cons_succ, List.getElem?_cons_zero]); (try rfl); done))
  focus (rfl)
  go_simp
  refine (of_it _ _ X _ (RZ.out _ Z15.out) (by omega)).mono ?_
  rintro e w16 ⟨⟨p1, rfl, hi⟩, hf⟩
  have P1 := Lib.hid hi
  clear hi
  have F16 := Lib.hid (F15.out.trans0 hf)
  have Z16 := Lib.hid (Z15.out.trans0 hf)
  have S16 := Lib.hid (Nat.le_trans S15.out hf.size)
  have HA16 := Lib.hid (HA15.out.fr0 hf)
  have HB16 := Lib.hid (HB15.out.fr0 hf)
  have HC16 := Lib.hid (HC15.out.fr0 hf)
  have HK16 := Lib.hid (HK15.out.fr hf (by simp))
  have HM0_16 := Lib.hid (mark_fr HM0_15.out hf (by simp))
  clear HM0_15
  have HM2_16 := Lib.hid (mark_fr HM2_15.out hf (by simp))
  clear HM2_15
  clear F15 Z15 HA15 HB15 HC15 HK15
  clear hf
  refine hK.out _ _ (HK16.out.cell_at (o := 0) rfl) (fun _ => ?_)
  try simp only [Act.put, List.setIfInBounds_toArray, List.set_cons_zero, List.set_cons_succ]
  refine hl_heavy (o := ?_) ?_ ?_ (fun K hK => ?_)
  rotate_left 1
  (focus ((simp only [List.getElem?_toArray, List.getElem?_cons_succ, List.getElem?_cons_zero]); (try rfl); done))
  focus (rfl)
  go_simp
  refine (take_it _ _ X (kk : Int) _ P1.out (by omega)).mono ?_
  rintro e w17 ⟨⟨p2, rfl, hi⟩, hf⟩
  rw [Int.toNat_natCast] at hi
  have P2 := Lib.hid hi
  clear hi
  have F17 := Lib.hid (F16.out.trans0 hf)
  have Z17 := Lib.hid (Z16.out.trans0 hf)
  have S17 := Lib.hid (Nat.le_trans S16.out hf.size)
  have HA17 := Lib.hid (HA16.out.fr0 hf)
  have HB17 := Lib.hid (HB16.out.fr0 hf)
  have HC17 := Lib.hid (HC16.out.fr0 hf)
  have HK17 := Lib.hid (HK16.out.fr hf (by simp))
  have HM0_17 := Lib.hid (mark_fr HM0_16.out hf (by simp))
  clear HM0_16
  have HM2_17 := Lib.hid (mark_fr HM2_16.out hf (by simp))
  clear HM2_16
  clear F16 Z16 HA16 HB16 HC16 HK16
  clear hf
  refine hK.out _ _ (HK17.out.cell_at (o := 0) rfl) (fun _ => ?_)
  try simp only [Act.put, List.setIfInBounds_toArray, List.set_cons_zero, List.set_cons_succ]
  refine hl_heavy (o := ?_) ?_ ?_ (fun K hK => ?_)
  rotate_left 1
  (focus ((simp only [List.getElem?_toArray, List.getElem?_cons_succ, List.getElem?_cons_zero]); (try rfl); done))
  focus (rfl)
  go_simp
  refine (num_it _ _ (X.take kk) _ P2.out (by rw [List.length_take]; omega)).mono ?_
  rintro e w18 ⟨⟨p3, rfl, hi⟩, hf⟩
  have P3 := Lib.hid hi
  clear hi
  have F18 := Lib.hid (F17.out.trans0 hf)
  have Z18 := Lib.hid (Z17.out.trans0 hf)
  have S18 := Lib.hid (Nat.le_trans S17.out hf.size)
  have HA18 := Lib.hid (HA17.out.fr0 hf)
  have HB18 := Lib.hid (HB17.out.fr0 hf)
  have HC18 := Lib.hid (HC17.out.fr0 hf)
  have HK18 := Lib.hid (HK17.out.fr hf (by simp))
  have HM0_18 := Lib.hid (mark_fr HM0_17.out hf (by simp))
  clear HM0_17
  have HM2_18 := Lib.hid (mark_fr HM2_17.out hf (by simp))
  clear HM2_17
  clear F17 Z17 HA17 HB17 HC17 HK17
  clear hf
  refine hK.out _ _ (HK18.out.cell_at (o := 0) rfl) (fun _ => ?_)
  try simp only [Act.put, List.setIfInBounds_toArray, List.set_cons_zero, List.set_cons_succ]
  refine hl_done_np ?_
  obtain ⟨gf4, lb4, rfl, hent, hDs, hseq⟩ := P3.out
  have HS4 := Lib.hid hseq
  have HE4 : Hid (∀ args w, (callFunc gf4 args).run Try.prog w = .ok (.enter gf4 args) w) := hent
  have HD4 : Hid (∀ b ∈ _, b < w18.heap.size ∧ (b < z ∨ z + 7 ≤ b)) := Lib.hid (fun b hb => ⟨hDs b hb, by
    simp only [List.mem_cons] at hb
    have h1 := HDz.out b; have h3 := HZ.out; have h4 := S15.out; have h5 := S16.out; have h6 := S17.out
    rcases hb with rfl | rfl | rfl | rfl | hb <;> first | omega | (have := h1 hb; omega)⟩)
  have HXk : Hid ((X.take kk).length ≤ 18) := Lib.hid (by rw [List.length_take]; omega)
  clear hent hDs hseq
  go_upto_block 4 with (fail)
  refine' wp_loop_block (w0 := w18) (O0 := fun b => b = z + 1 + 1 + 1 + 1 + 1 ∨ b = z + 1 + 1) (T := []) rfl HE4.out (HS4.out w18 _ (Nat.le_refl _) (fun b _ => rfl) (fun b hb => by have := S18.out; rcases hb with rfl | rfl <;> omega) (fun b hb h => by have := HD4.out b hb; rcases h with rfl | rfl <;> omega))
    (fun b hb => by have := S18.out; rcases hb with rfl | rfl <;> omega) (by simp) (Below.refl _ _) (by intro x; rfl)
    (fun pre O V => (∀ p ∈ pre, p.1 < 3) ∧ Got w18 (z + 1 + 1 + 1 + 1 + 1) (z + 1 + 1) z (pre.map Prod.snd) O V) (fun c pre O V => c = .exit 4 ∧ ∃ s p, pre = s ++ [p] ∧ 3 ≤ p.1 ∧ (∀ q ∈ s, q.1 < 3) ∧ Got w18 (z + 1 + 1 + 1 + 1 + 1) (z + 1 + 1) z (s.map Prod.snd) O V)
    (fun s O A V h hk => ⟨h.1, h.2.keeps hk⟩) (fun c s O A V h hk => by obtain ⟨h1, t, p, h2, h3, h4, h5⟩ := h; exact ⟨h1, t, p, h2, h3, h4, h5.keeps hk⟩)
    ⟨by simp, HC18.out.got (by omega)⟩ (fun s W W' h _ => h) (fun s W W' h _ => h)
    (fun D V => w18.heap.size ≤ D ∧ (∃ O, Got w18 (z + 1 + 1 + 1 + 1 + 1) (z + 1 + 1) z ((X.take kk).take 3) O V) ∧ V.heap[D]? = some (.deferred (some []))) _ ?assign ?body ?done ?stop ?tail
  case assign =>
    intro l x V K hK
    gi_wp2
    exact hK
  case body =>
    rintro l pre x O V ⟨hle, hG⟩ hlt hsz hOV
    obtain ⟨xi, xv⟩ := x
    have HLE : Hid (∀ p ∈ pre, p.1 < 3) := hle
    have HG := Lib.hid hG
    obtain ⟨⟨u, hu, hV, hown⟩, hfr, hOL, hold⟩ := hG
    obtain ⟨ua, uc, rfl⟩ := hV.form
    obtain ⟨k, hk⟩ : ∃ k, k = (pre.map Prod.snd).length := ⟨_, rfl⟩
    have hkp : k = pre.length := by rw [hk, List.length_map]
    rw [← hk] at hV hown hu
    have hcu := hu.cell_at (o := 0) rfl
    have hkx : k ≤ 100 := by have := HXk.out; omega
    have HV := Lib.hid hV
    have hBs : z ≤ V.heap.size := by have := S18.out; omega
    have FIN := Lib.hid (fun (V5 : World) (a5 : Option Addr) (c5 : Nat) h5 hg ho => Got.push (x := xv) (V5 := V5) (a5 := a5) (c5 := c5) hk ⟨by omega, by have := S18.out; omega⟩ hu hV hown hfr hOL hold h5 hg ho)
    clear hu hV hown hfr hOL hold hOV hk hle hkp hlt
    by_cases hgt : 3 ≤ xi
    · have hd1 : decide (3 ≤ xi) = true := decide_eq_true hgt
      have HGT : Hid (3 ≤ xi) := hgt
      clear FIN hgt
      gi_wp2
      refine ⟨Keeps.refl _ _, rfl, pre, (xi, xv), rfl, HGT.out, HLE.out, ?_⟩
      have h := HG.out
      first | exact h | exact ⟨h.out.imp fun u h => ⟨h.1, h.2.1, fun g hg => ⟨.inl (h.2.2 g hg).1, (h.2.2 g hg).2⟩⟩, h.fr, .inl h.own, fun b hb h2 => h2.elim (h.old b hb) (fun h3 => by omega)⟩
    · have hd1 : decide (3 ≤ xi) = false := decide_eq_false hgt
      have HGT : Hid (xi < 3) := (by omega : xi < 3)
      clear hgt
      gi_wp2_with (first | (gi_at_builtin; refine wpListIn_append_view _ rfl (.tmp 80) (.tmp 82) 33 rfl z 3 i0 (.int .i64 0) 1 8 Try.underlying33 hi0 hz0 hz1 hz2 rfl _ _ _ _ rfl (HV.out.alloc _) _ 1 [.int .i64 xv] rfl (reads_one _ _ _) (by simp [Value.oneCell']) (by unfold maxLen; omega) (by omega) (by simp; omega) ?_; intro a5 c5 w5 hv5 hg5 ho5; obtain ⟨hb1, hfin⟩ := FIN.out _ _ _ hv5 hg5 ho5; have hc1 := hb1.cell_at (o := 0) rfl; have hf1 := hb1.thawed 0; have HFIN := Lib.hid hfin; clear hfin hb1 hv5 hg5 ho5))
      obtain ⟨h1, h2⟩ := HFIN.out _ rfl
      refine ⟨h1, ?_, by rw [List.map_append]; exact h2⟩
      intro p hp
      rcases List.mem_append.1 hp with hp | hp
      · exact HLE.out p hp
      · rw [List.mem_singleton.1 hp]; exact HGT.out
  case done =>
    rintro D zs O V ⟨hD, hnO, _⟩ rfl ⟨hle, hG⟩ hK
    refine ⟨hD, ⟨O, ?_⟩, hK⟩
    rw [nums_lt3 _ hle] at hG
    exact hG
  case stop =>
    rintro D c pre O V ⟨hD, hnO⟩ hSp ⟨rfl, s, p, rfl, h3, hs, hG⟩ hK
    refine .inl ⟨rfl, hD, ⟨O, ?_⟩, hK⟩
    have hp : s ++ [p] <+: nums (X.take kk) := hSp
    rw [nums_stop _ _ _ hp h3 hs] at hG
    exact hG
  case tail =>
  rintro M4 w19 ⟨hM, ⟨O, hG⟩, hMK⟩
  obtain ⟨u4, hh⟩ := hG.held (bad := [z + 1 + 1 + 1, z, z + 1 + 1 + 1 + 1, z + 1]) (by have := S18.out; simp <;> omega)
  have hf := hG.fr
  have F19 := Lib.hid (F18.out.trans hf (by have := HZ.out; simp; omega))
  have Z19 := Lib.hid (Z18.out.trans hf (by have := HZ.out; simp; omega))
  have S19 := Lib.hid (Nat.le_trans S18.out hf.size)
  have HA19 := Lib.hid (HA18.out.fr hf (by simp))
  have HB19 := Lib.hid (HB18.out.fr hf (by simp))
  have HC19 := Lib.hid hh
  have HK19 := Lib.hid (HK18.out.fr hf (by simp <;> omega))
  have HM0_19 := Lib.hid (mark_fr HM0_18.out hf (by have := HM0_18.out.1; simp; omega))
  have DHM04 : Hid (M0 ≠ M4) := Lib.hid (by have := (Array.getElem?_eq_some_iff.1 HM0_18.out.2).1; omega)
  have HM2_19 := Lib.hid (mark_fr HM2_18.out hf (by have := HM2_18.out.1; simp; omega))
  have DHM24 : Hid (M2 ≠ M4) := Lib.hid (by have := (Array.getElem?_eq_some_iff.1 HM2_18.out.2).1; omega)
  have HM4_19 : Hid (z + 7 ≤ M4 ∧ w19.heap[M4]? = some (.deferred (some []))) := ⟨by have := S18.out; omega, hMK⟩
  clear hG hh hf hM hMK
  have hc6 : X.length ≤ c6 := by
    obtain ⟨_, a', c', he, hc', _⟩ := (RZ.out _ (Fr.refl _ _)).rd
    simp only [Value.slice.injEq] at he
    omega
  obtain ⟨jj, hjj⟩ : ∃ jj : Nat, jj = min 2 X.length := ⟨_, rfl⟩
  have hjx : jj ≤ X.length := by omega
  have himj : imin 2 (X.length : Int) = (jj : Int) := by rw [imin_eq]; omega
  obtain ⟨ac, hcut1, hcut2⟩ := cut_run a6 X.length c6 jj hjx hc6
  have HDJ : Hid (X.drop 2 = X.drop jj) := Lib.hid (by
    by_cases h : 2 ≤ X.length
    · rw [show jj = 2 by omega]
    · rw [List.drop_of_length_le (by omega), List.drop_of_length_le (by omega)])
  obtain ⟨na, hna⟩ : ∃ na, na = (X.take kk).length := ⟨_, rfl⟩
  obtain ⟨nb, hnb⟩ : ∃ nb, nb = ((X.drop 2).take kk).length := ⟨_, rfl⟩
  obtain ⟨nc, hnc⟩ : ∃ nc, nc = ((X.take kk).take 3).length := ⟨_, rfl⟩
  have HNA := Lib.hid hna
  have HNB := Lib.hid hnb
  have HNC := Lib.hid hnc
  have RA : Hid (∀ W, Fr [] w5 W → Reads W 1 (.slice a6 na c6) na ((X.take kk).map (Value.int .i64))) := Lib.hid (fun W h => by
    have h1 := (RZ.out W h).rd.take1 na (by rw [hna, List.length_take]; omega)
    rwa [hna, List.length_take, ← List.take_eq_take_min, ← List.length_take, ← hna] at h1)
  have RB : Hid (∀ W, Fr [] w5 W → Reads W 1 (.slice ac nb (c6 - jj)) nb (((X.drop 2).take kk).map (Value.int .i64))) := Lib.hid (fun W h => by
    have h0 := hcut2 W X (RZ.out W h).rd
    rw [← HDJ.out] at h0
    have hl : X.length - jj = (X.drop 2).length := by rw [HDJ.out, List.length_drop]
    rw [hl] at h0
    have h1 := h0.take1 nb (by rw [hnb, List.length_take]; omega)
    rwa [hnb, List.length_take, ← List.take_eq_take_min, ← List.length_take, ← hnb] at h1)
  have RC : Hid (∀ W, Fr [] w5 W → Reads W 1 (.slice a6 nc c6) nc (((X.take kk).take 3).map (Value.int .i64))) := Lib.hid (fun W h => by
    have e : (X.take kk).take 3 = X.take nc := by
      rw [hnc, List.take_take, List.length_take, ← List.take_eq_take_min]
    have h1 := (RZ.out W h).rd.take1 nc (by rw [hnc, List.length_take, List.length_take]; omega)
    rwa [e])
  rw [List.length_take] at hna
  rw [List.length_take, List.length_drop] at hnb
  rw [List.length_take, List.length_take] at hnc
  have hima : imin (kk : Int) (X.length : Int) = (na : Int) := by rw [imin_eq]; omega
  have himb : imin (kk : Int) ((X.length - jj : Nat) : Int) = (nb : Int) := by rw [imin_eq]; omega
  have himc : imin (imin (kk : Int) 3) (X.length : Int) = (nc : Int) := by rw [imin_eq, imin_eq]; omega
  have na0 : (0 : Int) ≤ (na : Int) := by omega
  have na1 : (na : Int) ≤ (c6 : Int) := by omega
  have nb0 : (0 : Int) ≤ (nb : Int) := by omega
  have nb1 : (nb : Int) ≤ ((c6 - jj : Nat) : Int) := by omega
  have nc0 : (0 : Int) ≤ (nc : Int) := by omega
  have nc1 : (nc : Int) ≤ (c6 : Int) := by omega
  have na2 : na ≤ c6 := by omega
  have nb2 : nb ≤ c6 - jj := by omega
  have nc2 : nc ≤ c6 := by omega
  have na18 : na ≤ 18 := by omega
  have nb18 : nb ≤ 18 := by omega
  have nc18 : nc ≤ 18 := by omega
  clear hna hnb hnc hcut2 hjj
  go_upto_region 20 with (fail)
  refine wp_region_plan_np (fun w => w.cell? ⟨z + 1 + 1 + 1, 0, none⟩ = some u0 ∧ w.cell? ⟨z + 1 + 1 + 1 + 1, 0, none⟩ = some u2 ∧ w.cell? ⟨z + 1 + 1 + 1 + 1 + 1, 0, none⟩ = some u4 ∧ w.cell? ⟨z + 1 + 1 + 1 + 1 + 1 + 1, 0, none⟩ = some (.int .i64 (kk : Int))) [(0, false), (1, true), (2, true), (3, true), (4, true), (5, true), (6, true), (7, true), (8, true), (9, false), (10, true), (11, true), (12, true), (13, true), (14, true), (15, true), (16, true), (17, true), (18, true), (19, false), (20, true), (21, true), (22, true), (23, true), (24, true), (25, true), (26, true), (27, true), (28, true), (29, false), (30, true), (31, true)] (by kernel_rfl) (by kernel_rfl) ⟨HA19.out.blk.cell_at (o := 0) rfl, HB19.out.blk.cell_at (o := 0) rfl, HC19.out.blk.cell_at (o := 0) rfl, HK19.out.cell_at (o := 0) rfl⟩ ?_
  obtain ⟨w20, hw⟩ : ∃ x : World, x = w19.drew := ⟨_, rfl⟩
  rw [← hw]
  have hf : Fr [] w19 w20 := by rw [hw]; exact (Fr.refl _ _).drew
  have F20 := Lib.hid (F19.out.trans0 hf)
  have Z20 := Lib.hid (Z19.out.trans0 hf)
  have S20 := Lib.hid (Nat.le_trans S19.out hf.size)
  have HA20 := Lib.hid (HA19.out.fr0 hf)
  have HB20 := Lib.hid (HB19.out.fr0 hf)
  have HC20 := Lib.hid (HC19.out.fr0 hf)
  have HK20 := Lib.hid (HK19.out.fr hf (by simp))
  have HM0_20 := Lib.hid (mark_fr HM0_19.out hf (by simp))
  clear HM0_19
  have HM2_20 := Lib.hid (mark_fr HM2_19.out hf (by simp))
  clear HM2_19
  have HM4_20 := Lib.hid (mark_fr HM4_19.out hf (by simp))
  clear HM4_19
  clear F19 Z19 HA19 HB19 HC19 HK19
  clear hf hw
  refine hl_heavy (o := ?_) ?_ ?_ (fun K hK => ?_)
  rotate_left 1
  (focus ((simp only [List.getElem?_toArray, List.getElem?_cons_succ, List.getElem?_cons_zero]); (try rfl); done))
  focus (rfl)
  go_simp
  refine (awake_any _).mono ?_
  rintro e w21 ⟨rfl, hf⟩
  have F21 := Lib.hid (F20.out.trans0 hf)
  have Z21 := Lib.hid (Z20.out.trans0 hf)
  have S21 := Lib.hid (Nat.le_trans S20.out hf.size)
  have HA21 := Lib.hid (HA20.out.fr0 hf)
  have HB21 := Lib.hid (HB20.out.fr0 hf)
  have HC21 := Lib.hid (HC20.out.fr0 hf)
  have HK21 := Lib.hid (HK20.out.fr hf (by simp))
  have HM0_21 := Lib.hid (mark_fr HM0_20.out hf (by simp))
  clear HM0_20
  have HM2_21 := Lib.hid (mark_fr HM2_20.out hf (by simp))
  clear HM2_20
  have HM4_21 := Lib.hid (mark_fr HM4_20.out hf (by simp))
  clear HM4_20
  clear F20 Z20 HA20 HB20 HC20 HK20
  clear hf
  refine hK.out _ _ ⟨HA21.out.blk.cell_at (o := 0) rfl, HB21.out.blk.cell_at (o := 0) rfl, HC21.out.blk.cell_at (o := 0) rfl, HK21.out.cell_at (o := 0) rfl⟩ (fun _ => ?_)
  try simp only [Act.put, List.setIfInBounds_toArray, List.set_cons_zero, List.set_cons_succ]
  refine hl_on (o := ?_) (v := ?_) ?_ ?_ (fun w hSw => ?_) ?_
  rotate_left 2
  (focus ((simp only [List.getElem?_toArray, List.getElem?_cons_succ, List.getElem?_cons_zero]); (try rfl); done))
  focus (rfl)
  focus (((try obtain ⟨hs1, hs2, hs3, hs4⟩ := hSw); go_simp; (try with_reducible rfl); done))
  simp only [Act.put, List.setIfInBounds_toArray, List.set_cons_zero, List.set_cons_succ]
  refine hl_on (o := ?_) (v := ?_) ?_ ?_ (fun w hSw => ?_) ?_
  rotate_left 2
  (focus ((simp only [List.getElem?_toArray, List.getElem?_cons_succ, List.getElem?_cons_zero]); (try rfl); done))
  focus (rfl)
  focus (((try obtain ⟨hs1, hs2, hs3, hs4⟩ := hSw); go_simp; (try with_reducible rfl); done))
  simp only [Act.put, List.setIfInBounds_toArray, List.set_cons_zero, List.set_cons_succ]
  refine hl_on (o := ?_) (v := ?_) ?_ ?_ (fun w hSw => ?_) ?_
  rotate_left 2
  (focus ((simp only [List.getElem?_toArray, List.getElem?_cons_succ, List.getElem?_cons_zero]); (try rfl); done))
  focus (rfl)
  focus (((try obtain ⟨hs1, hs2, hs3, hs4⟩ := hSw); go_simp; (try with_reducible rfl); done))
  simp only [Act.put, List.setIfInBounds_toArray, List.set_cons_zero, List.set_cons_succ]
  refine hl_on (o := ?_) (v := ?_) ?_ ?_ (fun w hSw => ?_) ?_
  rotate_left 2
  (focus ((simp only [List.getElem?_toArray, List.getElem?_cons_succ, List.getElem?_cons_zero]); (try rfl); done))
  focus (rfl)
  focus (((try obtain ⟨hs1, hs2, hs3, hs4⟩ := hSw); go_simp; (try with_reducible rfl); done))
  simp only [Act.put, List.setIfInBounds_toArray, List.set_cons_zero, List.set_cons_succ]
  refine hl_on (o := ?_) (v := ?_) ?_ ?_ (fun w hSw => ?_) ?_
  rotate_left 2
  (focus ((simp only [List.getElem?_toArray, List.getElem?_cons_succ, List.getElem?_cons_zero]); (try rfl); done))
  focus (rfl)
  focus (((try obtain ⟨hs1, hs2, hs3, hs4⟩ := hSw); go_simp; (try with_reducible rfl); done))
  simp only [Act.put, List.setIfInBounds_toArray, List.set_cons_zero, List.set_cons_succ]
  refine hl_on (o := ?_) (v := ?_) ?_ ?_ (fun w hSw => ?_) ?_
  rotate_left 2
  (focus ((simp only [List.getElem?_toArray, List.getElem?_cons_succ, List.getElem?_cons_zero]); (try rfl); done))
  focus (rfl)
  focus (((try obtain ⟨hs1, hs2, hs3, hs4⟩ := hSw); go_simp; (try with_reducible rfl); done))
  simp only [Act.put, List.setIfInBounds_toArray, List.set_cons_zero, List.set_cons_succ]
  refine hl_on (o := ?_) (v := ?_) ?_ ?_ (fun w hSw => ?_) ?_
  rotate_left 2
  (focus ((simp only [List.getElem?_toArray, List.getElem?_cons_succ, List.getElem?_cons_zero]); (try rfl); done))
  focus (rfl)
  focus (((try obtain ⟨hs1, hs2, hs3, hs4⟩ := hSw); go_simp; (try with_reducible rfl); done))
  simp only [Act.put, List.setIfInBounds_toArray, List.set_cons_zero, List.set_cons_succ]
  refine hl_on (o := ?_) (v := ?_) ?_ ?_ (fun w hSw => ?_) ?_
  rotate_left 2
  (focus ((simp only [List.getElem?_toArray, List.getElem?_cons_succ, List.getElem?_cons_zero]); (try rfl); done))
  focus (rfl)
  focus (((try obtain ⟨hs1, hs2, hs3, hs4⟩ := hSw); go_simp; (try with_reducible rfl); done))
  simp only [Act.put, List.setIfInBounds_toArray, List.set_cons_zero, List.set_cons_succ]
  refine hl_heavy (o := ?_) ?_ ?_ (fun K hK => ?_)
  rotate_left 1
  (focus ((simp only [List.getElem?_toArray, List.getElem?_cons_succ, List.getElem?_cons_zero]); (try rfl); done))
  focus (rfl)
  go_simp
  refine (same_true _ _ _ _ _ na (HNA.out ▸ HA21.out.view.reads) (RA.out _ Z21.out) rfl (by omega)).mono ?_
  rintro e w22 ⟨rfl, hf⟩
  have F22 := Lib.hid (F21.out.trans0 hf)
  have Z22 := Lib.hid (Z21.out.trans0 hf)
  have S22 := Lib.hid (Nat.le_trans S21.out hf.size)
  have HA22 := Lib.hid (HA21.out.fr0 hf)
  have HB22 := Lib.hid (HB21.out.fr0 hf)
  have HC22 := Lib.hid (HC21.out.fr0 hf)
  have HK22 := Lib.hid (HK21.out.fr hf (by simp))
  have HM0_22 := Lib.hid (mark_fr HM0_21.out hf (by simp))
  clear HM0_21
  have HM2_22 := Lib.hid (mark_fr HM2_21.out hf (by simp))
  clear HM2_21
  have HM4_22 := Lib.hid (mark_fr HM4_21.out hf (by simp))
  clear HM4_21
  clear F21 Z21 HA21 HB21 HC21 HK21
  clear hf
  refine hK.out _ _ ⟨HA22.out.blk.cell_at (o := 0) rfl, HB22.out.blk.cell_at (o := 0) rfl, HC22.out.blk.cell_at (o := 0) rfl, HK22.out.cell_at (o := 0) rfl⟩ (fun _ => ?_)
  try simp only [Act.put, List.setIfInBounds_toArray, List.set_cons_zero, List.set_cons_succ]
  refine hl_on (o := ?_) (v := ?_) ?_ ?_ (fun w hSw => ?_) ?_
  rotate_left 2
  (focus ((simp only [List.getElem?_toArray, List.getElem?_cons_succ, List.getElem?_cons_zero]); (try rfl); done))
  focus (rfl)
  focus (((try obtain ⟨hs1, hs2, hs3, hs4⟩ := hSw); go_simp; (try with_reducible rfl); done))
  simp only [Act.put, List.setIfInBounds_toArray, List.set_cons_zero, List.set_cons_succ]
  refine hl_on (o := ?_) (v := ?_) ?_ ?_ (fun w hSw => ?_) ?_
  rotate_left 2
  (focus ((simp only [List.getElem?_toArray, List.getElem?_cons_succ, List.getElem?_cons_zero]); (try rfl); done))
  focus (rfl)
  focus (((try obtain ⟨hs1, hs2, hs3, hs4⟩ := hSw); go_simp; (try with_reducible rfl); done))
  simp only [Act.put, List.setIfInBounds_toArray, List.set_cons_zero, List.set_cons_succ]
  refine hl_on (o := ?_) (v := ?_) ?_ ?_ (fun w hSw => ?_) ?_
  rotate_left 2
  (focus ((simp only [List.getElem?_toArray, List.getElem?_cons_succ, List.getElem?_cons_zero]); (try rfl); done))
  focus (rfl)
  focus (((try obtain ⟨hs1, hs2, hs3, hs4⟩ := hSw); go_simp; (try with_reducible rfl); done))
  simp only [Act.put, List.setIfInBounds_toArray, List.set_cons_zero, List.set_cons_succ]
  refine hl_on (o := ?_) (v := ?_) ?_ ?_ (fun w hSw => ?_) ?_
  rotate_left 2
  (focus ((simp only [List.getElem?_toArray, List.getElem?_cons_succ, List.getElem?_cons_zero]); (try rfl); done))
  focus (rfl)
  focus (((try obtain ⟨hs1, hs2, hs3, hs4⟩ := hSw); go_simp; (try with_reducible rfl); done))
  simp only [Act.put, List.setIfInBounds_toArray, List.set_cons_zero, List.set_cons_succ]
  refine hl_on (o := ?_) (v := ?_) ?_ ?_ (fun w hSw => ?_) ?_
  rotate_left 2
  (focus ((simp only [List.getElem?_toArray, List.getElem?_cons_succ, List.getElem?_cons_zero]); (try rfl); done))
  focus (rfl)
  focus (((try obtain ⟨hs1, hs2, hs3, hs4⟩ := hSw); go_simp; (try with_reducible rfl); done))
  simp only [Act.put, List.setIfInBounds_toArray, List.set_cons_zero, List.set_cons_succ]
  refine hl_on (o := ?_) (v := ?_) ?_ ?_ (fun w hSw => ?_) ?_
  rotate_left 2
  (focus ((simp only [List.getElem?_toArray, List.getElem?_cons_succ, List.getElem?_cons_zero]); (try rfl); done))
  focus (rfl)
  focus (((try obtain ⟨hs1, hs2, hs3, hs4⟩ := hSw); go_simp; (try with_reducible rfl); done))
  simp only [Act.put, List.setIfInBounds_toArray, List.set_cons_zero, List.set_cons_succ]
  refine hl_on (o := ?_) (v := ?_) ?_ ?_ (fun w hSw => ?_) ?_
  rotate_left 2
  (focus ((simp only [List.getElem?_toArray, List.getElem?_cons_succ, List.getElem?_cons_zero]); (try rfl); done))
  focus (rfl)
  focus (((try obtain ⟨hs1, hs2, hs3, hs4⟩ := hSw); go_simp; (try with_reducible rfl); done))
  simp only [Act.put, List.setIfInBounds_toArray, List.set_cons_zero, List.set_cons_succ]
  refine hl_on (o := ?_) (v := ?_) ?_ ?_ (fun w hSw => ?_) ?_
  rotate_left 2
  (focus ((simp only [List.getElem?_toArray, List.getElem?_cons_succ, List.getElem?_cons_zero]); (try rfl); done))
  focus (rfl)
  focus (((try obtain ⟨hs1, hs2, hs3, hs4⟩ := hSw); go_simp; (try with_reducible rfl); done))
  simp only [Act.put, List.setIfInBounds_toArray, List.set_cons_zero, List.set_cons_succ]
  refine hl_on (o := ?_) (v := ?_) ?_ ?_ (fun w hSw => ?_) ?_
  rotate_left 2
  (focus ((simp only [List.getElem?_toArray, List.getElem?_cons_succ, List.getElem?_cons_zero]); (try rfl); done))
  focus (rfl)
  focus (((try obtain ⟨hs1, hs2, hs3, hs4⟩ := hSw); go_simp; (try with_reducible rfl); done))
  simp only [Act.put, List.setIfInBounds_toArray, List.set_cons_zero, List.set_cons_succ]
  refine hl_heavy (o := ?_) ?_ ?_ (fun K hK => ?_)
  rotate_left 1
  (focus ((simp only [List.getElem?_toArray, List.getElem?_cons_succ, List.getElem?_cons_zero]); (try rfl); done))
  focus (rfl)
  go_simp
  refine (same_true _ _ _ _ _ nb (HNB.out ▸ HB22.out.view.reads) (RB.out _ Z22.out) rfl (by omega)).mono ?_
  rintro e w23 ⟨rfl, hf⟩
  have F23 := Lib.hid (F22.out.trans0 hf)
  have Z23 := Lib.hid (Z22.out.trans0 hf)
  have S23 := Lib.hid (Nat.le_trans S22.out hf.size)
  have HA23 := Lib.hid (HA22.out.fr0 hf)
  have HB23 := Lib.hid (HB22.out.fr0 hf)
  have HC23 := Lib.hid (HC22.out.fr0 hf)
  have HK23 := Lib.hid (HK22.out.fr hf (by simp))
  have HM0_23 := Lib.hid (mark_fr HM0_22.out hf (by simp))
  clear HM0_22
  have HM2_23 := Lib.hid (mark_fr HM2_22.out hf (by simp))
  clear HM2_22
  have HM4_23 := Lib.hid (mark_fr HM4_22.out hf (by simp))
  clear HM4_22
  clear F22 Z22 HA22 HB22 HC22 HK22
  clear hf
  refine hK.out _ _ ⟨HA23.out.blk.cell_at (o := 0) rfl, HB23.out.blk.cell_at (o := 0) rfl, HC23.out.blk.cell_at (o := 0) rfl, HK23.out.cell_at (o := 0) rfl⟩ (fun _ => ?_)
  try simp only [Act.put, List.setIfInBounds_toArray, List.set_cons_zero, List.set_cons_succ]
  refine hl_on (o := ?_) (v := ?_) ?_ ?_ (fun w hSw => ?_) ?_
  rotate_left 2
  (focus ((simp only [List.getElem?_toArray, List.getElem?_cons_succ, List.getElem?_cons_zero]); (try rfl); done))
  focus (rfl)
  focus (((try obtain ⟨hs1, hs2, hs3, hs4⟩ := hSw); go_simp; (try with_reducible rfl); done))
  simp only [Act.put, List.setIfInBounds_toArray, List.set_cons_zero, List.set_cons_succ]
  refine hl_on (o := ?_) (v := ?_) ?_ ?_ (fun w hSw => ?_) ?_
  rotate_left 2
  (focus ((simp only [List.getElem?_toArray, List.getElem?_cons_succ, List.getElem?_cons_zero]); (try rfl); done))
  focus (rfl)
  focus (((try obtain ⟨hs1, hs2, hs3, hs4⟩ := hSw); go_simp; (try with_reducible rfl); done))
  simp only [Act.put, List.setIfInBounds_toArray, List.set_cons_zero, List.set_cons_succ]
  refine hl_on (o := ?_) (v := ?_) ?_ ?_ (fun w hSw => ?_) ?_
  rotate_left 2
  (focus ((simp only [List.getElem?_toArray, List.getElem?_cons_succ, List.getElem?_cons_zero]); (try rfl); done))
  focus (rfl)
  focus (((try obtain ⟨hs1, hs2, hs3, hs4⟩ := hSw); go_simp; (try with_reducible rfl); done))
  simp only [Act.put, List.setIfInBounds_toArray, List.set_cons_zero, List.set_cons_succ]
  refine hl_on (o := ?_) (v := ?_) ?_ ?_ (fun w hSw => ?_) ?_
  rotate_left 2
  (focus ((simp only [List.getElem?_toArray, List.getElem?_cons_succ, List.getElem?_cons_zero]); (try rfl); done))
  focus (rfl)
  focus (((try obtain ⟨hs1, hs2, hs3, hs4⟩ := hSw); go_simp; (try with_reducible rfl); done))
  simp only [Act.put, List.setIfInBounds_toArray, List.set_cons_zero, List.set_cons_succ]
  refine hl_on (o := ?_) (v := ?_) ?_ ?_ (fun w hSw => ?_) ?_
  rotate_left 2
  (focus ((simp only [List.getElem?_toArray, List.getElem?_cons_succ, List.getElem?_cons_zero]); (try rfl); done))
  focus (rfl)
  focus (((try obtain ⟨hs1, hs2, hs3, hs4⟩ := hSw); go_simp; (try with_reducible rfl); done))
  simp only [Act.put, List.setIfInBounds_toArray, List.set_cons_zero, List.set_cons_succ]
  refine hl_on (o := ?_) (v := ?_) ?_ ?_ (fun w hSw => ?_) ?_
  rotate_left 2
  (focus ((simp only [List.getElem?_toArray, List.getElem?_cons_succ, List.getElem?_cons_zero]); (try rfl); done))
  focus (rfl)
  focus (((try obtain ⟨hs1, hs2, hs3, hs4⟩ := hSw); go_simp; (try with_reducible rfl); done))
  simp only [Act.put, List.setIfInBounds_toArray, List.set_cons_zero, List.set_cons_succ]
  refine hl_on (o := ?_) (v := ?_) ?_ ?_ (fun w hSw => ?_) ?_
  rotate_left 2
  (focus ((simp only [List.getElem?_toArray, List.getElem?_cons_succ, List.getElem?_cons_zero]); (try rfl); done))
  focus (rfl)
  focus (((try obtain ⟨hs1, hs2, hs3, hs4⟩ := hSw); go_simp; (try with_reducible rfl); done))
  simp only [Act.put, List.setIfInBounds_toArray, List.set_cons_zero, List.set_cons_succ]
  refine hl_on (o := ?_) (v := ?_) ?_ ?_ (fun w hSw => ?_) ?_
  rotate_left 2
  (focus ((simp only [List.getElem?_toArray, List.getElem?_cons_succ, List.getElem?_cons_zero]); (try rfl); done))
  focus (rfl)
  focus (((try obtain ⟨hs1, hs2, hs3, hs4⟩ := hSw); go_simp; (try with_reducible rfl); done))
  simp only [Act.put, List.setIfInBounds_toArray, List.set_cons_zero, List.set_cons_succ]
  refine hl_on (o := ?_) (v := ?_) ?_ ?_ (fun w hSw => ?_) ?_
  rotate_left 2
  (focus ((simp only [List.getElem?_toArray, List.getElem?_cons_succ, List.getElem?_cons_zero]); (try rfl); done))
  focus (rfl)
  focus (((try obtain ⟨hs1, hs2, hs3, hs4⟩ := hSw); go_simp; (try with_reducible rfl); done))
  simp only [Act.put, List.setIfInBounds_toArray, List.set_cons_zero, List.set_cons_succ]
  refine hl_heavy (o := ?_) ?_ ?_ (fun K hK => ?_)
  rotate_left 1
  (focus ((simp only [List.getElem?_toArray, List.getElem?_cons_succ, List.getElem?_cons_zero]); (try rfl); done))
  focus (rfl)
  go_simp
  refine (same_true _ _ _ _ _ nc (HNC.out ▸ HC23.out.view.reads) (RC.out _ Z23.out) rfl (by omega)).mono ?_
  rintro e w24 ⟨rfl, hf⟩
  have F24 := Lib.hid (F23.out.trans0 hf)
  have Z24 := Lib.hid (Z23.out.trans0 hf)
  have S24 := Lib.hid (Nat.le_trans S23.out hf.size)
  have HA24 := Lib.hid (HA23.out.fr0 hf)
  have HB24 := Lib.hid (HB23.out.fr0 hf)
  have HC24 := Lib.hid (HC23.out.fr0 hf)
  have HK24 := Lib.hid (HK23.out.fr hf (by simp))
  have HM0_24 := Lib.hid (mark_fr HM0_23.out hf (by simp))
  clear HM0_23
  have HM2_24 := Lib.hid (mark_fr HM2_23.out hf (by simp))
  clear HM2_23
  have HM4_24 := Lib.hid (mark_fr HM4_23.out hf (by simp))
  clear HM4_23
  clear F23 Z23 HA23 HB23 HC23 HK23
  clear hf
  refine hK.out _ _ ⟨HA24.out.blk.cell_at (o := 0) rfl, HB24.out.blk.cell_at (o := 0) rfl, HC24.out.blk.cell_at (o := 0) rfl, HK24.out.cell_at (o := 0) rfl⟩ (fun _ => ?_)
  try simp only [Act.put, List.setIfInBounds_toArray, List.set_cons_zero, List.set_cons_succ]
  refine hl_on (o := ?_) (v := ?_) ?_ ?_ (fun w hSw => ?_) ?_
  rotate_left 2
  (focus ((simp only [List.getElem?_toArray, List.getElem?_cons_succ, List.getElem?_cons_zero]); (try rfl); done))
  focus (rfl)
  focus (((try obtain ⟨hs1, hs2, hs3, hs4⟩ := hSw); go_simp; (try with_reducible rfl); done))
  simp only [Act.put, List.setIfInBounds_toArray, List.set_cons_zero, List.set_cons_succ]
  refine hl_on (o := ?_) (v := ?_) ?_ ?_ (fun w hSw => ?_) ?_
  rotate_left 2
  (focus ((simp only [List.getElem?_toArray, List.getElem?_cons_succ, List.getElem?_cons_zero]); (try rfl); done))
  focus (rfl)
  focus (((try obtain ⟨hs1, hs2, hs3, hs4⟩ := hSw); go_simp; (try with_reducible rfl); done))
  simp only [Act.put, List.setIfInBounds_toArray, List.set_cons_zero, List.set_cons_succ]
  refine hl_done_np ?_
  go_wp2
  refine leaves_loops [M4, M2, M0] ?_ ?_ (results_tmp rfl _ _ _) ⟨rfl, takeAll_fr _ F24.out ?_⟩
  · have h1 := DHM02.out
    have h2 := DHM04.out
    have h3 := DHM24.out
    simp
    omega
  · intro D hD
    simp at hD
    rcases hD with rfl | rfl | rfl
    · exact HM4_24.out.2
    · exact HM2_24.out.2
    · exact HM0_24.out.2
  · intro D hD
    have h1 := HM0_24.out.1
    have h2 := HM2_24.out.1
    have h3 := HM4_24.out.1
    have h4 := HZ.out.1
    simp at hD
    rcases hD with rfl | rfl | rfl <;> omega
end Go.Proofs.Ytcnoaflojojfkab.Seqs
