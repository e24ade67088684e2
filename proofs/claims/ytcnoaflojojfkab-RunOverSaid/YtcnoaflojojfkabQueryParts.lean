/- The queries that the statements make by picks (lamplighterref16.Query): what they are in memory. No condition. -/
import Derived.Test.YtcnoaflojojfkabPatBase
import Derived.Test.YtcnoaflojojfkabBits
import Derived.Test.YtcnoaflojojfkabPlanTree
import Derived.Test.YtcnoaflojojfkabSteps
namespace Go.Proofs.Ytcnoaflojojfkab.Qry
open Go.RowKit Go.Proofs.Ytcnoaflojojfkab.Pat
set_option linter.unusedVariables false
set_option linter.unusedSimpArgs false
set_option maxRecDepth 100000

/-- a part of a predicate, as it lies in memory -/
structure Nd where
  op : Int
  kind : Int
  i : Int
  s : ByteArray
  b : Bool
  v : ByteArray
  f : ByteArray
def Nd.cells (d : Nd) : List Value := [.int .i64 d.op, .int .i64 d.kind, .int .i64 d.i, .string d.s, .bool d.b, .string d.v, .string d.f]
theorem Nd.len (d : Nd) : d.cells.length = 7 := rfl
def e0 : ByteArray := ⟨#[]⟩

theorem ret_cell {P : Program} {fn : Func} {R : Ending → World → Prop} {A : Act} {w : World} {p : Tmp} {ty t : TypeId} {g : Nat} {cs : List Value} {d : TypeDesc} (hb : Blk w g cs t) (h : fn.results = #[.cell p ty])
    (hp : A.tmps.getD p undef = .pointer (some ⟨g, 0, none⟩)) (hu : P.underlying ty = some d) (hd : (match d with | .struct _ | .array _ _ => true | _ => false) = true) (hi : (P.info? ty).map (·.size) = some cs.length)
    (hdf : A.defers = []) (hR : R (.returned (.agg cs.toArray)) w) : bodyPost P fn R .ret A w :=
  bodyPost_ret (results_cell_row h _ w g t cs.toArray (0, 0) d hp hb hu hd (by simpa using hi)) hdf hR
/-- several new blocks -/
def allocs (w : World) (os : List Obj) : World := os.foldl World.alloc w
theorem allocs_fr (w : World) (os : List Obj) : Fr [] w (allocs w os) := by
  unfold allocs
  induction os generalizing w with
  | nil => exact Fr.refl _ _
  | cons o os ih => exact ((Fr.refl [] w).alloc o).trans0 (ih (w.alloc o))
theorem allocs_get {w : World} {os : List Obj} {i : Nat} {o : Obj} (h : os[i]? = some o) : (allocs w os).heap[w.heap.size + i]? = some o := by
  induction os generalizing w i with
  | nil => cases h
  | cons x os ih =>
    cases i with
    | zero =>
      simp at h; subst h
      have h1 : (w.alloc x).heap[w.heap.size]? = some x := heap_alloc_new w x
      have h2 := (allocs_fr (w.alloc x) os).block w.heap.size (by simp) (by simp)
      exact h2.trans h1
    | succ i =>
      have := ih (w := w.alloc x) (i := i) (by simpa using h)
      rw [World.size_alloc] at this
      rw [show w.heap.size + (i + 1) = w.heap.size + 1 + i by omega]
      exact this
theorem allocs_blk {w : World} {os : List Obj} {i : Nat} {cs : List Value} {t : TypeId} (h : os[i]? = some (.cells cs.toArray t (0, 0))) : Blk (allocs w os) (w.heap.size + i) cs t := allocs_get h

theorem field_any (v f : ByteArray) (w : World) : Calls Try.prog 92 #[.string v, .string f] w fun e w' => e = .returned (.agg #[.int .i64 2, .int .i64 0, .int .i64 0, .string ⟨#[]⟩, .bool false, .string v, .string f]) ∧ Fr [] w w' := by
  go_enter Try.func92, Try.ntmps92
  go_wp2
  try simp only [Exit.inBlock, Exit.then]
  refine ret_cell (g := w.heap.size) (cs := Nd.cells ⟨2, 0, 0, e0, false, v, f⟩) (t := 139) (Blk.new w _ _) rfl rfl Try.underlying139 rfl (by kernel_rfl) rfl ?_
  exact ⟨rfl, (Fr.refl [] w).alloc _⟩
theorem num_any (n : Int) (w : World) : Calls Try.prog 93 #[.int .i64 n] w fun e w' => e = .returned (.agg #[.int .i64 1, .int .i64 1, .int .i64 n, .string ⟨#[]⟩, .bool false, .string ⟨#[]⟩, .string ⟨#[]⟩]) ∧ Fr [] w w' := by
  go_enter Try.func93, Try.ntmps93
  go_wp2
  try simp only [Exit.inBlock, Exit.then]
  refine ret_cell (g := w.heap.size) (cs := Nd.cells ⟨1, 1, n, e0, false, e0, e0⟩) (t := 139) (Blk.new w _ _) rfl rfl Try.underlying139 rfl (by kernel_rfl) rfl ?_
  exact ⟨rfl, (Fr.refl [] w).alloc _⟩
theorem vars_any (w : World) : Calls Try.prog 74 #[] w fun e w' => e = .returned (.slice (some ⟨w.heap.size, 0, none⟩) 4 4) ∧ w' = w.alloc (.cells #[.string ⟨#[97]⟩, .string ⟨#[98]⟩, .string ⟨#[99]⟩, .string ⟨#[101]⟩] 9) := by
  go_enter Try.func74, Try.ntmps74
  go_wp2
  go_ret
  exact ⟨rfl, rfl⟩
/-- the types of an element, by a pick -/
def typesOf (k : Nat) : List ByteArray := match k % 6 with
  | 0 => [⟨#[65]⟩] | 1 => [⟨#[66]⟩] | 2 => [⟨#[67]⟩] | 3 => [⟨#[65]⟩, ⟨#[66]⟩] | 4 => [⟨#[66]⟩, ⟨#[67]⟩] | _ => [⟨#[65]⟩, ⟨#[66]⟩, ⟨#[67]⟩]
theorem typesOf_len (k : Nat) : 1 ≤ (typesOf k).length ∧ (typesOf k).length ≤ 3 := by unfold typesOf; split <;> simp
set_option maxHeartbeats 2000000 in
theorem types_any (k : Nat) (w : World) : Calls Try.prog 75 #[.int .i64 k] w fun e w' => ∃ a c, e = .returned (.slice a (typesOf k).length c) ∧
    View w' w.heap.size 9 1 (.slice a (typesOf k).length c) (typesOf k).length ((typesOf k).map Value.string) ∧ Fr [] w w' := by
  have hm : (k : Int).tmod 6 = ((k % 6 : Nat) : Int) := by rw [Int.tmod_eq_emod_of_nonneg (by omega)]; rfl
  obtain ⟨j, hj⟩ : ∃ j, k % 6 = j := ⟨_, rfl⟩
  have hj6 : j < 6 := by omega
  have HT : Hid (∀ l, l = typesOf k → View (allocs w [.cells #[.string ⟨#[65]⟩] 9, .cells #[.string ⟨#[66]⟩] 9, .cells #[.string ⟨#[67]⟩] 9, .cells #[.string ⟨#[65]⟩, .string ⟨#[66]⟩] 9, .cells #[.string ⟨#[66]⟩, .string ⟨#[67]⟩] 9, .cells #[.string ⟨#[65]⟩, .string ⟨#[66]⟩, .string ⟨#[67]⟩] 9,
      .cells #[.slice (some ⟨w.heap.size, 0, none⟩) 1 1, .slice (some ⟨w.heap.size + 1, 0, none⟩) 1 1, .slice (some ⟨w.heap.size + 2, 0, none⟩) 1 1, .slice (some ⟨w.heap.size + 3, 0, none⟩) 2 2, .slice (some ⟨w.heap.size + 4, 0, none⟩) 2 2, .slice (some ⟨w.heap.size + 5, 0, none⟩) 3 3] 80])
      w.heap.size 9 1 (.slice (some ⟨w.heap.size + j, 0, none⟩) l.length l.length) l.length (l.map Value.string)
      ∧ Fr [] w (allocs w [.cells #[.string ⟨#[65]⟩] 9, .cells #[.string ⟨#[66]⟩] 9, .cells #[.string ⟨#[67]⟩] 9, .cells #[.string ⟨#[65]⟩, .string ⟨#[66]⟩] 9, .cells #[.string ⟨#[66]⟩, .string ⟨#[67]⟩] 9, .cells #[.string ⟨#[65]⟩, .string ⟨#[66]⟩, .string ⟨#[67]⟩] 9,
      .cells #[.slice (some ⟨w.heap.size, 0, none⟩) 1 1, .slice (some ⟨w.heap.size + 1, 0, none⟩) 1 1, .slice (some ⟨w.heap.size + 2, 0, none⟩) 1 1, .slice (some ⟨w.heap.size + 3, 0, none⟩) 2 2, .slice (some ⟨w.heap.size + 4, 0, none⟩) 2 2, .slice (some ⟨w.heap.size + 5, 0, none⟩) 3 3] 80])) := by
    rintro l rfl
    refine ⟨?_, allocs_fr _ _⟩
    refine View.of_blk (allocs_blk ?_) (by omega) (by simp) (by have := typesOf_len k; unfold maxLen; omega)
    unfold typesOf
    rw [hj]
    match j, hj6 with
    | 0, _ => rfl
    | 1, _ => rfl
    | 2, _ => rfl
    | 3, _ => rfl
    | 4, _ => rfl
    | 5, _ => rfl
  rw [hj] at hm
  have HL : Hid (typesOf k = typesOf j) := by unfold Hid typesOf; rw [hj, Nat.mod_eq_of_lt hj6]
  match j, hj6 with
  | 0, _ =>
    clear hj
    go_enter Try.func75, Try.ntmps75
    go_wp2_with fail
    go_ret
    have h := HT.out (typesOf k) rfl
    rw [HL.out] at h ⊢
    exact ⟨_, _, rfl, h.1, h.2⟩
  | 1, _ =>
    clear hj
    go_enter Try.func75, Try.ntmps75
    go_wp2_with fail
    go_ret
    have h := HT.out (typesOf k) rfl
    rw [HL.out] at h ⊢
    exact ⟨_, _, rfl, h.1, h.2⟩
  | 2, _ =>
    clear hj
    go_enter Try.func75, Try.ntmps75
    go_wp2_with fail
    go_ret
    have h := HT.out (typesOf k) rfl
    rw [HL.out] at h ⊢
    exact ⟨_, _, rfl, h.1, h.2⟩
  | 3, _ =>
    clear hj
    go_enter Try.func75, Try.ntmps75
    go_wp2_with fail
    go_ret
    have h := HT.out (typesOf k) rfl
    rw [HL.out] at h ⊢
    exact ⟨_, _, rfl, h.1, h.2⟩
  | 4, _ =>
    clear hj
    go_enter Try.func75, Try.ntmps75
    go_wp2_with fail
    go_ret
    have h := HT.out (typesOf k) rfl
    rw [HL.out] at h ⊢
    exact ⟨_, _, rfl, h.1, h.2⟩
  | 5, _ =>
    clear hj
    go_enter Try.func75, Try.ntmps75
    go_wp2_with fail
    go_ret
    have h := HT.out (typesOf k) rfl
    rw [HL.out] at h ⊢
    exact ⟨_, _, rfl, h.1, h.2⟩

/-- a part in memory, its seven cells -/
def S7 (g : Nat) (op : Int) (W : World) : Prop := W.cell? ⟨g, 0, none⟩ = some (.int .i64 op) ∧ W.cell? ⟨g, 1, none⟩ = some (.int .i64 0) ∧ W.cell? ⟨g, 2, none⟩ = some (.int .i64 0) ∧ W.cell? ⟨g, 3, none⟩ = some (.string ⟨#[]⟩) ∧
  W.cell? ⟨g, 4, none⟩ = some (.bool false) ∧ W.cell? ⟨g, 5, none⟩ = some (.string ⟨#[]⟩) ∧ W.cell? ⟨g, 6, none⟩ = some (.string ⟨#[]⟩)
theorem S7.fr {g : Nat} {op : Int} {W W' : World} (h : S7 g op W) (hf : Fr [] W W') : S7 g op W' := by
  obtain ⟨h0, h1, h2, h3, h4, h5, h6⟩ := h
  exact ⟨hf.cell h0 (by simp), hf.cell h1 (by simp), hf.cell h2 (by simp), hf.cell h3 (by simp), hf.cell h4 (by simp), hf.cell h5 (by simp), hf.cell h6 (by simp)⟩
theorem S7.new (w : World) (op : Int) : S7 w.heap.size op (w.alloc (.cells #[.int .i64 op, .int .i64 0, .int .i64 0, .string ⟨#[]⟩, .bool false, .string ⟨#[]⟩, .string ⟨#[]⟩] 139)) := by
  have hb := Blk.new w [.int .i64 op, .int .i64 0, .int .i64 0, .string ⟨#[]⟩, .bool false, .string ⟨#[]⟩, .string ⟨#[]⟩] 139
  exact ⟨hb.cell_at rfl, hb.cell_at rfl, hb.cell_at rfl, hb.cell_at rfl, hb.cell_at rfl, hb.cell_at rfl, hb.cell_at rfl⟩
theorem nodes_end {w w1 : World} (ns : List Nd) (hF : Fr [] w w1) (h7 : ns.length ≤ 7) (W : World) (hW : W = w1.alloc (.cells (ns.flatMap Nd.cells).toArray 139)) : ∃ (ns' : List Nd) (a : Option Addr) (c : Nat), Ending.returned (.slice (some ⟨w1.heap.size, 0, none⟩) ns.length ns.length) = .returned (.slice a ns'.length c) ∧ ns'.length ≤ 7 ∧
    View W w.heap.size 139 7 (.slice a ns'.length c) ns'.length (ns'.flatMap Nd.cells) ∧ Fr [] w W :=
  ⟨ns, _, _, rfl, h7, by rw [hW]; exact View.of_blk (Blk.new w1 _ _) hF.size (by rw [recs_len Nd.len]) (by unfold maxLen; omega), by rw [hW]; exact hF.alloc _⟩
set_option maxHeartbeats 8000000 in
theorem pred_any (x : Nat) (v other : ByteArray) (w : World) : Calls Try.prog 76 #[.int .i64 x, .string v, .string other] w fun e w' => ∃ (ns : List Nd) (a : Option Addr) (c : Nat), e = .returned (.slice a ns.length c) ∧ ns.length ≤ 7 ∧
    View w' w.heap.size 139 7 (.slice a ns.length c) ns.length (ns.flatMap Nd.cells) ∧ Fr [] w w' := by
  have hm : (x : Int).tmod 7 = ((x % 7 : Nat) : Int) := by rw [Int.tmod_eq_emod_of_nonneg (by omega)]; rfl
  obtain ⟨j, hj⟩ : ∃ j, x % 7 = j := ⟨_, rfl⟩
  have hj6 : j < 7 := by omega
  rw [hj] at hm
  clear hj
  match j, hj6 with
  | 0, _ =>
    go_enter Try.func76, Try.ntmps76
    go_wp2_with fail
    go_ret
    refine ⟨[], none, 0, rfl, by simp, View.nil _ _ _ _, (Fr.refl [] w).alloc _⟩
  | 2, _ =>
    go_enter Try.func76, Try.ntmps76
    go_wp2_with fail
    refine (field_any _ _ _).mono ?_
    rintro e w1 ⟨rfl, hF⟩
    have hF' : Fr [] w w1 := ((Fr.refl [] w).alloc _).trans0 hF
    clear hF
    go_wp2_with fail
    go_ret
    exact nodes_end [⟨_, _, _, _, _, _, _⟩, ⟨_, _, _, _, _, _, _⟩, ⟨_, _, _, _, _, _, _⟩] hF' (by simp) _ rfl
  | 1, _ =>
    go_enter Try.func76, Try.ntmps76
    go_upto_region 7 with (fail)
    generalize hop : (7 + (x : Int) / 64 % 6) = op
    refine wp_region_tree_np (fun W => W.cell? ⟨w.heap.size, 0, none⟩ = some (.int .i64 op) ∧ W.cell? ⟨w.heap.size, 1, none⟩ = some (.int .i64 0) ∧ W.cell? ⟨w.heap.size, 2, none⟩ = some (.int .i64 0) ∧ W.cell? ⟨w.heap.size, 3, none⟩ = some (.string ⟨#[]⟩) ∧
      W.cell? ⟨w.heap.size, 4, none⟩ = some (.bool false) ∧ W.cell? ⟨w.heap.size, 5, none⟩ = some (.string ⟨#[]⟩) ∧ W.cell? ⟨w.heap.size, 6, none⟩ = some (.string ⟨#[]⟩)) (.on 0 (.on 2 (.on 4 (.one 1 (.one 3 (.one 5 (.on 6 .nil))))))) (by kernel_rfl) (by kernel_rfl) (S7.new w op) ?_
    have F0 : Hid (Fr [] w (w.alloc (.cells #[.int .i64 op, .int .i64 0, .int .i64 0, .string ⟨#[]⟩, .bool false, .string ⟨#[]⟩, .string ⟨#[]⟩] 139)).drew) := Lib.hid ((Fr.refl [] w).alloc _).drew
    have S0 : Hid (S7 w.heap.size op (w.alloc (.cells #[.int .i64 op, .int .i64 0, .int .i64 0, .string ⟨#[]⟩, .bool false, .string ⟨#[]⟩, .string ⟨#[]⟩] 139)).drew) := Lib.hid (S7.new w op)
    clear hop
    iterate 3 (first | (refine ht_on (o := ?_) (v := ?_) ?_ ?_ (fun w hSw => ?_) ?_; rotate_left 2; (focus ((simp only [List.getElem?_toArray, List.getElem?_cons_succ, List.getElem?_cons_zero]); (try rfl); done)); (focus (rfl)); (focus (((try obtain ⟨s0, s1, s2, s3, s4, s5, s6⟩ := hSw); (try dsimp only at hSw); go_simp; (try with_reducible rfl)); done)); simp only [Act.put, List.setIfInBounds_toArray, List.set_cons_zero, List.set_cons_succ]) | (refine ht_off_light (o := ?_) ?_ ?_ ?_; rotate_left 1; (focus ((simp only [List.getElem?_toArray, List.getElem?_cons_succ, List.getElem?_cons_zero]); (try rfl); done)); (focus (rfl)); simp only [Act.put, List.setIfInBounds_toArray, List.set_cons_zero, List.set_cons_succ]))
    refine ht_one (o := ?_) ?_ ?_ (fun K hK => ?_)
    rotate_left 1
    (focus ((simp only [List.getElem?_toArray, List.getElem?_cons_succ, List.getElem?_cons_zero]); (try rfl); done))
    focus (rfl)
    go_simp
    refine (field_any _ _ _).mono ?_
    rintro e w1 ⟨rfl, hf⟩
    have F1 : Hid (Fr [] w w1) := Lib.hid (F0.out.trans0 hf)
    have S1 : Hid (S7 w.heap.size op w1) := Lib.hid (S0.out.fr hf)
    clear hf F0 S0
    refine hK.out _ _ S1.out (fun _ => ?_)
    try simp only [Act.put, List.setIfInBounds_toArray, List.set_cons_zero, List.set_cons_succ]
    refine ht_one (o := ?_) ?_ ?_ (fun K hK => ?_)
    rotate_left 1
    (focus ((simp only [List.getElem?_toArray, List.getElem?_cons_succ, List.getElem?_cons_zero]); (try rfl); done))
    focus (rfl)
    go_simp
    refine (num_any _ _).mono ?_
    rintro e w2 ⟨rfl, hf⟩
    have F2 : Hid (Fr [] w w2) := Lib.hid (F1.out.trans0 hf)
    have S2 : Hid (S7 w.heap.size op w2) := Lib.hid (S1.out.fr hf)
    clear hf F1 S1
    refine hK.out _ _ S2.out (fun _ => ?_)
    try simp only [Act.put, List.setIfInBounds_toArray, List.set_cons_zero, List.set_cons_succ]
    refine ht_one (o := ?_) ?_ ?_ (fun K hK => ?_)
    rotate_left 1
    (focus ((simp only [List.getElem?_toArray, List.getElem?_cons_succ, List.getElem?_cons_zero]); (try rfl); done))
    focus (rfl)
    go_simp
    refine hK.out _ _ (S2.out.fr ((Fr.refl [] _).alloc _)) (fun _ => ?_)
    try simp only [Act.put, List.setIfInBounds_toArray, List.set_cons_zero, List.set_cons_succ]
    iterate 1 (first | (refine ht_on (o := ?_) (v := ?_) ?_ ?_ (fun w hSw => ?_) ?_; rotate_left 2; (focus ((simp only [List.getElem?_toArray, List.getElem?_cons_succ, List.getElem?_cons_zero]); (try rfl); done)); (focus (rfl)); (focus (((try obtain ⟨s0, s1, s2, s3, s4, s5, s6⟩ := hSw); (try dsimp only at hSw); go_simp; (try with_reducible rfl)); done)); simp only [Act.put, List.setIfInBounds_toArray, List.set_cons_zero, List.set_cons_succ]) | (refine ht_off_light (o := ?_) ?_ ?_ ?_; rotate_left 1; (focus ((simp only [List.getElem?_toArray, List.getElem?_cons_succ, List.getElem?_cons_zero]); (try rfl); done)); (focus (rfl)); simp only [Act.put, List.setIfInBounds_toArray, List.set_cons_zero, List.set_cons_succ]))
    refine ht_done_np ?_
    go_wp2_with fail
    go_ret
    exact nodes_end [⟨_, _, _, _, _, _, _⟩, ⟨_, _, _, _, _, _, _⟩, ⟨_, _, _, _, _, _, _⟩] F2.out (by simp) _ rfl
  | 3, _ =>
    go_enter Try.func76, Try.ntmps76
    go_upto_region 11 with (fail)
    generalize hop : (7 + (x : Int) / 64 % 6) = op
    refine wp_region_tree_np (fun W => W.cell? ⟨w.heap.size, 0, none⟩ = some (.int .i64 op) ∧ W.cell? ⟨w.heap.size, 1, none⟩ = some (.int .i64 0) ∧ W.cell? ⟨w.heap.size, 2, none⟩ = some (.int .i64 0) ∧ W.cell? ⟨w.heap.size, 3, none⟩ = some (.string ⟨#[]⟩) ∧
      W.cell? ⟨w.heap.size, 4, none⟩ = some (.bool false) ∧ W.cell? ⟨w.heap.size, 5, none⟩ = some (.string ⟨#[]⟩) ∧ W.cell? ⟨w.heap.size, 6, none⟩ = some (.string ⟨#[]⟩)) (.on 0 (.on 2 (.on 4 (.on 5 (.one 1 (.one 3 (.one 6 (.on 7 .nil)))))))) (by kernel_rfl) (by kernel_rfl) (S7.new w op) ?_
    have F0 : Hid (Fr [] w (w.alloc (.cells #[.int .i64 op, .int .i64 0, .int .i64 0, .string ⟨#[]⟩, .bool false, .string ⟨#[]⟩, .string ⟨#[]⟩] 139)).drew) := Lib.hid ((Fr.refl [] w).alloc _).drew
    have S0 : Hid (S7 w.heap.size op (w.alloc (.cells #[.int .i64 op, .int .i64 0, .int .i64 0, .string ⟨#[]⟩, .bool false, .string ⟨#[]⟩, .string ⟨#[]⟩] 139)).drew) := Lib.hid (S7.new w op)
    clear hop
    iterate 4 (first | (refine ht_on (o := ?_) (v := ?_) ?_ ?_ (fun w hSw => ?_) ?_; rotate_left 2; (focus ((simp only [List.getElem?_toArray, List.getElem?_cons_succ, List.getElem?_cons_zero]); (try rfl); done)); (focus (rfl)); (focus (((try obtain ⟨s0, s1, s2, s3, s4, s5, s6⟩ := hSw); (try dsimp only at hSw); go_simp; (try with_reducible rfl)); done)); simp only [Act.put, List.setIfInBounds_toArray, List.set_cons_zero, List.set_cons_succ]) | (refine ht_off_light (o := ?_) ?_ ?_ ?_; rotate_left 1; (focus ((simp only [List.getElem?_toArray, List.getElem?_cons_succ, List.getElem?_cons_zero]); (try rfl); done)); (focus (rfl)); simp only [Act.put, List.setIfInBounds_toArray, List.set_cons_zero, List.set_cons_succ]))
    refine ht_one (o := ?_) ?_ ?_ (fun K hK => ?_)
    rotate_left 1
    (focus ((simp only [List.getElem?_toArray, List.getElem?_cons_succ, List.getElem?_cons_zero]); (try rfl); done))
    focus (rfl)
    go_simp
    refine (field_any _ _ _).mono ?_
    rintro e w1 ⟨rfl, hf⟩
    have F1 : Hid (Fr [] w w1) := Lib.hid (F0.out.trans0 hf)
    have S1 : Hid (S7 w.heap.size op w1) := Lib.hid (S0.out.fr hf)
    clear hf F0 S0
    refine hK.out _ _ S1.out (fun _ => ?_)
    try simp only [Act.put, List.setIfInBounds_toArray, List.set_cons_zero, List.set_cons_succ]
    refine ht_one (o := ?_) ?_ ?_ (fun K hK => ?_)
    rotate_left 1
    (focus ((simp only [List.getElem?_toArray, List.getElem?_cons_succ, List.getElem?_cons_zero]); (try rfl); done))
    focus (rfl)
    go_simp
    refine (num_any _ _).mono ?_
    rintro e w2 ⟨rfl, hf⟩
    have F2 : Hid (Fr [] w w2) := Lib.hid (F1.out.trans0 hf)
    have S2 : Hid (S7 w.heap.size op w2) := Lib.hid (S1.out.fr hf)
    clear hf F1 S1
    refine hK.out _ _ S2.out (fun _ => ?_)
    try simp only [Act.put, List.setIfInBounds_toArray, List.set_cons_zero, List.set_cons_succ]
    refine ht_one (o := ?_) ?_ ?_ (fun K hK => ?_)
    rotate_left 1
    (focus ((simp only [List.getElem?_toArray, List.getElem?_cons_succ, List.getElem?_cons_zero]); (try rfl); done))
    focus (rfl)
    go_simp
    refine hK.out _ _ (S2.out.fr ((Fr.refl [] _).alloc _)) (fun _ => ?_)
    try simp only [Act.put, List.setIfInBounds_toArray, List.set_cons_zero, List.set_cons_succ]
    iterate 1 (first | (refine ht_on (o := ?_) (v := ?_) ?_ ?_ (fun w hSw => ?_) ?_; rotate_left 2; (focus ((simp only [List.getElem?_toArray, List.getElem?_cons_succ, List.getElem?_cons_zero]); (try rfl); done)); (focus (rfl)); (focus (((try obtain ⟨s0, s1, s2, s3, s4, s5, s6⟩ := hSw); (try dsimp only at hSw); go_simp; (try with_reducible rfl)); done)); simp only [Act.put, List.setIfInBounds_toArray, List.set_cons_zero, List.set_cons_succ]) | (refine ht_off_light (o := ?_) ?_ ?_ ?_; rotate_left 1; (focus ((simp only [List.getElem?_toArray, List.getElem?_cons_succ, List.getElem?_cons_zero]); (try rfl); done)); (focus (rfl)); simp only [Act.put, List.setIfInBounds_toArray, List.set_cons_zero, List.set_cons_succ]))
    refine ht_done_np ?_
    go_wp2_with fail
    go_ret
    exact nodes_end [⟨_, _, _, _, _, _, _⟩, ⟨_, _, _, _, _, _, _⟩, ⟨_, _, _, _, _, _, _⟩, ⟨_, _, _, _, _, _, _⟩] F2.out (by simp) _ rfl
  | 4, _ =>
    go_enter Try.func76, Try.ntmps76
    go_upto_region 13 with (fail)
    generalize hop : (7 + (x : Int) / 64 % 6) = op
    refine wp_region_tree_np (fun W => W.cell? ⟨w.heap.size, 0, none⟩ = some (.int .i64 op) ∧ W.cell? ⟨w.heap.size, 1, none⟩ = some (.int .i64 0) ∧ W.cell? ⟨w.heap.size, 2, none⟩ = some (.int .i64 0) ∧ W.cell? ⟨w.heap.size, 3, none⟩ = some (.string ⟨#[]⟩) ∧
      W.cell? ⟨w.heap.size, 4, none⟩ = some (.bool false) ∧ W.cell? ⟨w.heap.size, 5, none⟩ = some (.string ⟨#[]⟩) ∧ W.cell? ⟨w.heap.size, 6, none⟩ = some (.string ⟨#[]⟩)) (.on 0 (.on 3 (.on 4 (.on 6 (.one 1 (.one 2 (.one 5 (.one 7 (.on 8 .nil))))))))) (by kernel_rfl) (by kernel_rfl) (S7.new w op) ?_
    have F0 : Hid (Fr [] w (w.alloc (.cells #[.int .i64 op, .int .i64 0, .int .i64 0, .string ⟨#[]⟩, .bool false, .string ⟨#[]⟩, .string ⟨#[]⟩] 139)).drew) := Lib.hid ((Fr.refl [] w).alloc _).drew
    have S0 : Hid (S7 w.heap.size op (w.alloc (.cells #[.int .i64 op, .int .i64 0, .int .i64 0, .string ⟨#[]⟩, .bool false, .string ⟨#[]⟩, .string ⟨#[]⟩] 139)).drew) := Lib.hid (S7.new w op)
    clear hop
    iterate 4 (first | (refine ht_on (o := ?_) (v := ?_) ?_ ?_ (fun w hSw => ?_) ?_; rotate_left 2; (focus ((simp only [List.getElem?_toArray, List.getElem?_cons_succ, List.getElem?_cons_zero]); (try rfl); done)); (focus (rfl)); (focus (((try obtain ⟨s0, s1, s2, s3, s4, s5, s6⟩ := hSw); (try dsimp only at hSw); go_simp; (try with_reducible rfl)); done)); simp only [Act.put, List.setIfInBounds_toArray, List.set_cons_zero, List.set_cons_succ]) | (refine ht_off_light (o := ?_) ?_ ?_ ?_; rotate_left 1; (focus ((simp only [List.getElem?_toArray, List.getElem?_cons_succ, List.getElem?_cons_zero]); (try rfl); done)); (focus (rfl)); simp only [Act.put, List.setIfInBounds_toArray, List.set_cons_zero, List.set_cons_succ]))
    refine ht_one (o := ?_) ?_ ?_ (fun K hK => ?_)
    rotate_left 1
    (focus ((simp only [List.getElem?_toArray, List.getElem?_cons_succ, List.getElem?_cons_zero]); (try rfl); done))
    focus (rfl)
    go_simp
    refine (field_any _ _ _).mono ?_
    rintro e w1 ⟨rfl, hf⟩
    have F1 : Hid (Fr [] w w1) := Lib.hid (F0.out.trans0 hf)
    have S1 : Hid (S7 w.heap.size op w1) := Lib.hid (S0.out.fr hf)
    clear hf F0 S0
    refine hK.out _ _ S1.out (fun _ => ?_)
    try simp only [Act.put, List.setIfInBounds_toArray, List.set_cons_zero, List.set_cons_succ]
    refine ht_one (o := ?_) ?_ ?_ (fun K hK => ?_)
    rotate_left 1
    (focus ((simp only [List.getElem?_toArray, List.getElem?_cons_succ, List.getElem?_cons_zero]); (try rfl); done))
    focus (rfl)
    go_simp
    refine (num_any _ _).mono ?_
    rintro e w2 ⟨rfl, hf⟩
    have F2 : Hid (Fr [] w w2) := Lib.hid (F1.out.trans0 hf)
    have S2 : Hid (S7 w.heap.size op w2) := Lib.hid (S1.out.fr hf)
    clear hf F1 S1
    refine hK.out _ _ S2.out (fun _ => ?_)
    try simp only [Act.put, List.setIfInBounds_toArray, List.set_cons_zero, List.set_cons_succ]
    refine ht_one (o := ?_) ?_ ?_ (fun K hK => ?_)
    rotate_left 1
    (focus ((simp only [List.getElem?_toArray, List.getElem?_cons_succ, List.getElem?_cons_zero]); (try rfl); done))
    focus (rfl)
    go_simp
    refine (field_any _ _ _).mono ?_
    rintro e w3 ⟨rfl, hf⟩
    have F3 : Hid (Fr [] w w3) := Lib.hid (F2.out.trans0 hf)
    have S3 : Hid (S7 w.heap.size op w3) := Lib.hid (S2.out.fr hf)
    clear hf F2 S2
    refine hK.out _ _ S3.out (fun _ => ?_)
    try simp only [Act.put, List.setIfInBounds_toArray, List.set_cons_zero, List.set_cons_succ]
    refine ht_one (o := ?_) ?_ ?_ (fun K hK => ?_)
    rotate_left 1
    (focus ((simp only [List.getElem?_toArray, List.getElem?_cons_succ, List.getElem?_cons_zero]); (try rfl); done))
    focus (rfl)
    go_simp
    refine hK.out _ _ (S3.out.fr ((Fr.refl [] _).alloc _)) (fun _ => ?_)
    try simp only [Act.put, List.setIfInBounds_toArray, List.set_cons_zero, List.set_cons_succ]
    iterate 1 (first | (refine ht_on (o := ?_) (v := ?_) ?_ ?_ (fun w hSw => ?_) ?_; rotate_left 2; (focus ((simp only [List.getElem?_toArray, List.getElem?_cons_succ, List.getElem?_cons_zero]); (try rfl); done)); (focus (rfl)); (focus (((try obtain ⟨s0, s1, s2, s3, s4, s5, s6⟩ := hSw); (try dsimp only at hSw); go_simp; (try with_reducible rfl)); done)); simp only [Act.put, List.setIfInBounds_toArray, List.set_cons_zero, List.set_cons_succ]) | (refine ht_off_light (o := ?_) ?_ ?_ ?_; rotate_left 1; (focus ((simp only [List.getElem?_toArray, List.getElem?_cons_succ, List.getElem?_cons_zero]); (try rfl); done)); (focus (rfl)); simp only [Act.put, List.setIfInBounds_toArray, List.set_cons_zero, List.set_cons_succ]))
    refine ht_done_np ?_
    go_wp2_with fail
    go_ret
    exact nodes_end [⟨_, _, _, _, _, _, _⟩, ⟨_, _, _, _, _, _, _⟩, ⟨_, _, _, _, _, _, _⟩, ⟨_, _, _, _, _, _, _⟩, ⟨_, _, _, _, _, _, _⟩] F3.out (by simp) _ rfl
  | 5, _ =>
    go_enter Try.func76, Try.ntmps76
    go_upto_region 15 with (fail)
    generalize hop : (7 + (x : Int) / 64 % 6) = op
    refine wp_region_tree_np (fun W => W.cell? ⟨w.heap.size, 0, none⟩ = some (.int .i64 op) ∧ W.cell? ⟨w.heap.size, 1, none⟩ = some (.int .i64 0) ∧ W.cell? ⟨w.heap.size, 2, none⟩ = some (.int .i64 0) ∧ W.cell? ⟨w.heap.size, 3, none⟩ = some (.string ⟨#[]⟩) ∧
      W.cell? ⟨w.heap.size, 4, none⟩ = some (.bool false) ∧ W.cell? ⟨w.heap.size, 5, none⟩ = some (.string ⟨#[]⟩) ∧ W.cell? ⟨w.heap.size, 6, none⟩ = some (.string ⟨#[]⟩)) (.on 0 (.on 2 (.on 4 (.on 5 (.on 7 (.on 9 (.on 10 (.one 1 (.one 3 (.one 6 (.one 8 (.one 11 (.on 12 .nil))))))))))))) (by kernel_rfl) (by kernel_rfl) (S7.new w op) ?_
    have F0 : Hid (Fr [] w (w.alloc (.cells #[.int .i64 op, .int .i64 0, .int .i64 0, .string ⟨#[]⟩, .bool false, .string ⟨#[]⟩, .string ⟨#[]⟩] 139)).drew) := Lib.hid ((Fr.refl [] w).alloc _).drew
    have S0 : Hid (S7 w.heap.size op (w.alloc (.cells #[.int .i64 op, .int .i64 0, .int .i64 0, .string ⟨#[]⟩, .bool false, .string ⟨#[]⟩, .string ⟨#[]⟩] 139)).drew) := Lib.hid (S7.new w op)
    clear hop
    iterate 7 (first | (refine ht_on (o := ?_) (v := ?_) ?_ ?_ (fun w hSw => ?_) ?_; rotate_left 2; (focus ((simp only [List.getElem?_toArray, List.getElem?_cons_succ, List.getElem?_cons_zero]); (try rfl); done)); (focus (rfl)); (focus (((try obtain ⟨s0, s1, s2, s3, s4, s5, s6⟩ := hSw); (try dsimp only at hSw); go_simp; (try with_reducible rfl)); done)); simp only [Act.put, List.setIfInBounds_toArray, List.set_cons_zero, List.set_cons_succ]) | (refine ht_off_light (o := ?_) ?_ ?_ ?_; rotate_left 1; (focus ((simp only [List.getElem?_toArray, List.getElem?_cons_succ, List.getElem?_cons_zero]); (try rfl); done)); (focus (rfl)); simp only [Act.put, List.setIfInBounds_toArray, List.set_cons_zero, List.set_cons_succ]))
    refine ht_one (o := ?_) ?_ ?_ (fun K hK => ?_)
    rotate_left 1
    (focus ((simp only [List.getElem?_toArray, List.getElem?_cons_succ, List.getElem?_cons_zero]); (try rfl); done))
    focus (rfl)
    go_simp
    refine (field_any _ _ _).mono ?_
    rintro e w1 ⟨rfl, hf⟩
    have F1 : Hid (Fr [] w w1) := Lib.hid (F0.out.trans0 hf)
    have S1 : Hid (S7 w.heap.size op w1) := Lib.hid (S0.out.fr hf)
    clear hf F0 S0
    refine hK.out _ _ S1.out (fun _ => ?_)
    try simp only [Act.put, List.setIfInBounds_toArray, List.set_cons_zero, List.set_cons_succ]
    refine ht_one (o := ?_) ?_ ?_ (fun K hK => ?_)
    rotate_left 1
    (focus ((simp only [List.getElem?_toArray, List.getElem?_cons_succ, List.getElem?_cons_zero]); (try rfl); done))
    focus (rfl)
    go_simp
    refine (field_any _ _ _).mono ?_
    rintro e w2 ⟨rfl, hf⟩
    have F2 : Hid (Fr [] w w2) := Lib.hid (F1.out.trans0 hf)
    have S2 : Hid (S7 w.heap.size op w2) := Lib.hid (S1.out.fr hf)
    clear hf F1 S1
    refine hK.out _ _ S2.out (fun _ => ?_)
    try simp only [Act.put, List.setIfInBounds_toArray, List.set_cons_zero, List.set_cons_succ]
    refine ht_one (o := ?_) ?_ ?_ (fun K hK => ?_)
    rotate_left 1
    (focus ((simp only [List.getElem?_toArray, List.getElem?_cons_succ, List.getElem?_cons_zero]); (try rfl); done))
    focus (rfl)
    go_simp
    refine (field_any _ _ _).mono ?_
    rintro e w3 ⟨rfl, hf⟩
    have F3 : Hid (Fr [] w w3) := Lib.hid (F2.out.trans0 hf)
    have S3 : Hid (S7 w.heap.size op w3) := Lib.hid (S2.out.fr hf)
    clear hf F2 S2
    refine hK.out _ _ S3.out (fun _ => ?_)
    try simp only [Act.put, List.setIfInBounds_toArray, List.set_cons_zero, List.set_cons_succ]
    refine ht_one (o := ?_) ?_ ?_ (fun K hK => ?_)
    rotate_left 1
    (focus ((simp only [List.getElem?_toArray, List.getElem?_cons_succ, List.getElem?_cons_zero]); (try rfl); done))
    focus (rfl)
    go_simp
    refine (num_any _ _).mono ?_
    rintro e w4 ⟨rfl, hf⟩
    have F4 : Hid (Fr [] w w4) := Lib.hid (F3.out.trans0 hf)
    have S4 : Hid (S7 w.heap.size op w4) := Lib.hid (S3.out.fr hf)
    clear hf F3 S3
    refine hK.out _ _ S4.out (fun _ => ?_)
    try simp only [Act.put, List.setIfInBounds_toArray, List.set_cons_zero, List.set_cons_succ]
    refine ht_one (o := ?_) ?_ ?_ (fun K hK => ?_)
    rotate_left 1
    (focus ((simp only [List.getElem?_toArray, List.getElem?_cons_succ, List.getElem?_cons_zero]); (try rfl); done))
    focus (rfl)
    go_simp
    refine hK.out _ _ (S4.out.fr ((Fr.refl [] _).alloc _)) (fun _ => ?_)
    try simp only [Act.put, List.setIfInBounds_toArray, List.set_cons_zero, List.set_cons_succ]
    iterate 1 (first | (refine ht_on (o := ?_) (v := ?_) ?_ ?_ (fun w hSw => ?_) ?_; rotate_left 2; (focus ((simp only [List.getElem?_toArray, List.getElem?_cons_succ, List.getElem?_cons_zero]); (try rfl); done)); (focus (rfl)); (focus (((try obtain ⟨s0, s1, s2, s3, s4, s5, s6⟩ := hSw); (try dsimp only at hSw); go_simp; (try with_reducible rfl)); done)); simp only [Act.put, List.setIfInBounds_toArray, List.set_cons_zero, List.set_cons_succ]) | (refine ht_off_light (o := ?_) ?_ ?_ ?_; rotate_left 1; (focus ((simp only [List.getElem?_toArray, List.getElem?_cons_succ, List.getElem?_cons_zero]); (try rfl); done)); (focus (rfl)); simp only [Act.put, List.setIfInBounds_toArray, List.set_cons_zero, List.set_cons_succ]))
    refine ht_done_np ?_
    go_wp2_with fail
    go_ret
    exact nodes_end [⟨_, _, _, _, _, _, _⟩, ⟨_, _, _, _, _, _, _⟩, ⟨_, _, _, _, _, _, _⟩, ⟨_, _, _, _, _, _, _⟩, ⟨_, _, _, _, _, _, _⟩, ⟨_, _, _, _, _, _, _⟩, ⟨_, _, _, _, _, _, _⟩] F4.out (by simp) _ rfl
  | 6, _ =>
    go_enter Try.func76, Try.ntmps76
    go_upto_region 16 with (fail)
    generalize hop : (7 + (x : Int) / 64 % 6) = op
    refine wp_region_tree_np (fun W => W.cell? ⟨w.heap.size, 0, none⟩ = some (.int .i64 op) ∧ W.cell? ⟨w.heap.size, 1, none⟩ = some (.int .i64 0) ∧ W.cell? ⟨w.heap.size, 2, none⟩ = some (.int .i64 0) ∧ W.cell? ⟨w.heap.size, 3, none⟩ = some (.string ⟨#[]⟩) ∧
      W.cell? ⟨w.heap.size, 4, none⟩ = some (.bool false) ∧ W.cell? ⟨w.heap.size, 5, none⟩ = some (.string ⟨#[]⟩) ∧ W.cell? ⟨w.heap.size, 6, none⟩ = some (.string ⟨#[]⟩)) (.on 0 (.on 2 (.on 4 (.on 5 (.on 7 (.on 8 (.on 9 (.on 10 (.one 1 (.one 3 (.one 6 (.one 11 (.on 12 .nil))))))))))))) (by kernel_rfl) (by kernel_rfl) (S7.new w op) ?_
    have F0 : Hid (Fr [] w (w.alloc (.cells #[.int .i64 op, .int .i64 0, .int .i64 0, .string ⟨#[]⟩, .bool false, .string ⟨#[]⟩, .string ⟨#[]⟩] 139)).drew) := Lib.hid ((Fr.refl [] w).alloc _).drew
    have S0 : Hid (S7 w.heap.size op (w.alloc (.cells #[.int .i64 op, .int .i64 0, .int .i64 0, .string ⟨#[]⟩, .bool false, .string ⟨#[]⟩, .string ⟨#[]⟩] 139)).drew) := Lib.hid (S7.new w op)
    clear hop
    iterate 8 (first | (refine ht_on (o := ?_) (v := ?_) ?_ ?_ (fun w hSw => ?_) ?_; rotate_left 2; (focus ((simp only [List.getElem?_toArray, List.getElem?_cons_succ, List.getElem?_cons_zero]); (try rfl); done)); (focus (rfl)); (focus (((try obtain ⟨s0, s1, s2, s3, s4, s5, s6⟩ := hSw); (try dsimp only at hSw); go_simp; (try with_reducible rfl)); done)); simp only [Act.put, List.setIfInBounds_toArray, List.set_cons_zero, List.set_cons_succ]) | (refine ht_off_light (o := ?_) ?_ ?_ ?_; rotate_left 1; (focus ((simp only [List.getElem?_toArray, List.getElem?_cons_succ, List.getElem?_cons_zero]); (try rfl); done)); (focus (rfl)); simp only [Act.put, List.setIfInBounds_toArray, List.set_cons_zero, List.set_cons_succ]))
    refine ht_one (o := ?_) ?_ ?_ (fun K hK => ?_)
    rotate_left 1
    (focus ((simp only [List.getElem?_toArray, List.getElem?_cons_succ, List.getElem?_cons_zero]); (try rfl); done))
    focus (rfl)
    go_simp
    refine (field_any _ _ _).mono ?_
    rintro e w1 ⟨rfl, hf⟩
    have F1 : Hid (Fr [] w w1) := Lib.hid (F0.out.trans0 hf)
    have S1 : Hid (S7 w.heap.size op w1) := Lib.hid (S0.out.fr hf)
    clear hf F0 S0
    refine hK.out _ _ S1.out (fun _ => ?_)
    try simp only [Act.put, List.setIfInBounds_toArray, List.set_cons_zero, List.set_cons_succ]
    refine ht_one (o := ?_) ?_ ?_ (fun K hK => ?_)
    rotate_left 1
    (focus ((simp only [List.getElem?_toArray, List.getElem?_cons_succ, List.getElem?_cons_zero]); (try rfl); done))
    focus (rfl)
    go_simp
    refine (field_any _ _ _).mono ?_
    rintro e w2 ⟨rfl, hf⟩
    have F2 : Hid (Fr [] w w2) := Lib.hid (F1.out.trans0 hf)
    have S2 : Hid (S7 w.heap.size op w2) := Lib.hid (S1.out.fr hf)
    clear hf F1 S1
    refine hK.out _ _ S2.out (fun _ => ?_)
    try simp only [Act.put, List.setIfInBounds_toArray, List.set_cons_zero, List.set_cons_succ]
    refine ht_one (o := ?_) ?_ ?_ (fun K hK => ?_)
    rotate_left 1
    (focus ((simp only [List.getElem?_toArray, List.getElem?_cons_succ, List.getElem?_cons_zero]); (try rfl); done))
    focus (rfl)
    go_simp
    refine (field_any _ _ _).mono ?_
    rintro e w3 ⟨rfl, hf⟩
    have F3 : Hid (Fr [] w w3) := Lib.hid (F2.out.trans0 hf)
    have S3 : Hid (S7 w.heap.size op w3) := Lib.hid (S2.out.fr hf)
    clear hf F2 S2
    refine hK.out _ _ S3.out (fun _ => ?_)
    try simp only [Act.put, List.setIfInBounds_toArray, List.set_cons_zero, List.set_cons_succ]
    refine ht_one (o := ?_) ?_ ?_ (fun K hK => ?_)
    rotate_left 1
    (focus ((simp only [List.getElem?_toArray, List.getElem?_cons_succ, List.getElem?_cons_zero]); (try rfl); done))
    focus (rfl)
    go_simp
    refine hK.out _ _ (S3.out.fr ((Fr.refl [] _).alloc _)) (fun _ => ?_)
    try simp only [Act.put, List.setIfInBounds_toArray, List.set_cons_zero, List.set_cons_succ]
    iterate 1 (first | (refine ht_on (o := ?_) (v := ?_) ?_ ?_ (fun w hSw => ?_) ?_; rotate_left 2; (focus ((simp only [List.getElem?_toArray, List.getElem?_cons_succ, List.getElem?_cons_zero]); (try rfl); done)); (focus (rfl)); (focus (((try obtain ⟨s0, s1, s2, s3, s4, s5, s6⟩ := hSw); (try dsimp only at hSw); go_simp; (try with_reducible rfl)); done)); simp only [Act.put, List.setIfInBounds_toArray, List.set_cons_zero, List.set_cons_succ]) | (refine ht_off_light (o := ?_) ?_ ?_ ?_; rotate_left 1; (focus ((simp only [List.getElem?_toArray, List.getElem?_cons_succ, List.getElem?_cons_zero]); (try rfl); done)); (focus (rfl)); simp only [Act.put, List.setIfInBounds_toArray, List.set_cons_zero, List.set_cons_succ]))
    refine ht_done_np ?_
    go_wp2_with fail
    go_ret
    exact nodes_end [⟨_, _, _, _, _, _, _⟩, ⟨_, _, _, _, _, _, _⟩, ⟨_, _, _, _, _, _, _⟩, ⟨_, _, _, _, _, _, _⟩, ⟨_, _, _, _, _, _, _⟩, ⟨_, _, _, _, _, _, _⟩, ⟨_, _, _, _, _, _, _⟩] F3.out (by simp) _ rfl
end Go.Proofs.Ytcnoaflojojfkab.Qry
