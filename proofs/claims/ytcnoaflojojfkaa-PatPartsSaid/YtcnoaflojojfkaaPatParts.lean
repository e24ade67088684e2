/- PatParts: which element is next, what must not be there ahead of it, and which is the last: the walk of the law. No condition. -/
import Derived.Test.YtcnoaflojojfkaaQuery
import Derived.Test.YtcnoaflojojfkaaPatAwake
namespace Go.Proofs.Ytcnoaflojojfkaa.PatParts
open Go.RowKit Go.Proofs.Ytcnoaflojojfkaa.Pat Go.Proofs.Ytcnoaflojojfkaa.Qry
set_option linter.unusedVariables false
set_option linter.unusedSimpArgs false
set_option maxRecDepth 100000

/-- a cell of one's own slice is written -/
theorem view_set {w : World} {B e size n c g off : Nat} {xs : List Value} (h : View w B e size (.slice (some ⟨g, off, none⟩) n c) n xs) {i : Nat} (hi : i < xs.length) (v : Value) :
    View (w.setCell ⟨g, off + i, none⟩ v) B e size (.slice (some ⟨g, off, none⟩) n c) n (xs.set i v) ∧ (∀ o, w.frozen? ⟨g, o, none⟩ = false) ∧ B ≤ g := by
  obtain ⟨hl, ⟨h0, _⟩ | ⟨g', off', cap', cs, hv, hB, hb, hn, hm, hf, ht⟩⟩ := h
  · cases h0
  · simp only [Value.slice.injEq, Option.some.injEq, Addr.mk.injEq, and_true, true_and] at hv
    obtain ⟨⟨rfl, rfl⟩, rfl⟩ := hv
    refine ⟨⟨by rw [List.length_set]; exact hl, .inr ⟨g, off, c, cs.set (off + i) v, rfl, hB, hb.set _ _, hn, hm, by rw [List.length_set]; exact hf, ?_⟩⟩, hb.thawed, hB⟩
    rw [← ht, List.drop_set, if_neg (by omega), List.take_set, show off + i - off = i by omega]
/-- a query that the law has: its variable's block, its elements -/
structure Law (w W : World) (qb : Nat) (es : List El) (a : Option Addr) (c : Nat) (win cap : Int) : Prop where
  top : Blk W qb [.slice a es.length c, .int .i64 win, .int .i64 cap] 38
  view : View W (w.heap.size + 1) 43 6 (.slice a es.length c) es.length (qcells es)
  fr : Fr [] w W
  ne : ∀ g, (Value.slice a es.length c).ownBlock = some g → g ≠ qb
  len : es.length ≤ 4
  lo : w.heap.size ≤ qb
theorem Law.fr0 {w W W' : World} {qb : Nat} {es : List El} {a : Option Addr} {c : Nat} {win cap : Int} (h : Law w W qb es a c win cap) (hf : Fr [] W W') : Law w W' qb es a c win cap :=
  ⟨h.top.fr hf (by simp), h.view.fr0 hf, h.fr.trans0 hf, h.ne, h.len, h.lo⟩
theorem ints_at {w : World} {a : Option Addr} {n c : Nat} {xs : List Int} (h : Reads w 1 (.slice a n c) n (xs.map (Value.int .i64))) {j : Nat} {x : Int} (hx : xs[j]? = some x) : ∃ b o, a = some ⟨b, o, none⟩ ∧ w.cell? ⟨b, o + j, none⟩ = some (.int .i64 x) := by
  obtain ⟨_, a', c', hv, _, h | ⟨b, o, h2, h⟩⟩ := h
  · have := congrArg List.length h
    have h3 := (List.getElem?_eq_some_iff.1 hx).1
    simp at this; rw [this] at h3; simp at h3
  · simp only [Value.slice.injEq, true_and] at hv
    exact ⟨b, o, by rw [hv.1, h2], h _ _ (by rw [List.getElem?_map, hx]; rfl)⟩
/-- what is known of the list between, and of the next one, behind so many elements -/
def J (es : List El) (s k m : Nat) (op : Bool) (nx : Int) : Prop :=
  (op = true ∧ nx = -1 ∧ ((k ≤ s ∧ m = 0) ∨ (s ≤ k ∧ s + m = k ∧ negs es s = m + negs es k))) ∨ (op = false ∧ m = negs es s ∧ nx = ((s + m : Nat) : Int) ∧ s + m < k)
theorem J.low {es : List El} {s k m : Nat} {op : Bool} {nx : Int} (h : J es s k m op nx) (hk : k < s) : J es s (k + 1) m op nx ∧ op = true := by
  rcases h with ⟨rfl, h2, h3⟩ | ⟨rfl, h2, h3, h4⟩
  · refine ⟨.inl ⟨rfl, h2, ?_⟩, rfl⟩
    rcases h3 with ⟨h4, h5⟩ | ⟨h4, h5, h6⟩
    · exact .inl ⟨by omega, h5⟩
    · omega
  · omega
theorem J.at_ {es : List El} {s k m : Nat} {nx : Int} (h : J es s k m true nx) (hk : s ≤ k) : s + m = k ∧ negs es s = m + negs es k ∧ nx = -1 := by
  rcases h with ⟨_, h2, h3⟩ | ⟨h1, _⟩
  · rcases h3 with ⟨h4, h5⟩ | ⟨h4, h5, h6⟩
    · obtain rfl : k = s := by omega
      subst h5
      exact ⟨by omega, by omega, h2⟩
    · exact ⟨h5, h6, h2⟩
  · cases h1
theorem J.neg_open {es : List El} {s k m : Nat} {nx : Int} {e : El} (h : J es s k m true nx) (hk : s ≤ k) (he : es[k]? = some e) (hn : e.neg = true) : J es s (k + 1) (m + 1) true nx ∧ s + m = k := by
  obtain ⟨h1, h2, h3⟩ := h.at_ hk
  rw [negs_go he hn] at h2
  exact ⟨.inl ⟨rfl, h3, .inr ⟨by omega, by omega, by omega⟩⟩, h1⟩
theorem J.pos_open {es : List El} {s k m : Nat} {nx : Int} {e : El} (h : J es s k m true nx) (hk : s ≤ k) (he : es[k]? = some e) (hn : e.neg = false) : J es s (k + 1) m false k ∧ nx = -1 := by
  obtain ⟨h1, h2, h3⟩ := h.at_ hk
  rw [negs_stop he hn] at h2
  exact ⟨.inr ⟨rfl, by omega, by omega, by omega⟩, h3⟩
theorem J.shut {es : List El} {s k m : Nat} {nx : Int} (h : J es s k m false nx) : J es s (k + 1) m false nx ∧ 0 ≤ nx := by
  rcases h with ⟨h1, _⟩ | ⟨h1, h2, h3, h4⟩
  · cases h1
  · exact ⟨.inr ⟨rfl, h2, h3, by omega⟩, by omega⟩
theorem J.end_ {es : List El} {s m : Nat} {op : Bool} {nx : Int} (h : J es s es.length m op nx) : m = negs es s ∧ nx = nextOf es s := by
  unfold nextOf
  rcases h with ⟨_, h2, h3⟩ | ⟨_, h2, h3, h4⟩
  · rcases h3 with ⟨h4, h5⟩ | ⟨h4, h5, h6⟩
    · rw [negs_end h4, if_neg (by omega)]; exact ⟨h5, h2⟩
    · rw [negs_end (Nat.le_refl _)] at h6
      rw [h6, if_neg (by omega)]; exact ⟨by omega, h2⟩
  · rw [← h2, if_pos (by omega)]; exact ⟨rfl, h3⟩
theorem J.le {es : List El} {s k m : Nat} {op : Bool} {nx : Int} (h : J es s k m op nx) (hk : k ≤ es.length) (hl : es.length ≤ 4) : m ≤ 4 ∧ -1 ≤ nx ∧ nx ≤ 4 := by
  rcases h with ⟨_, h2, ⟨h4, h5⟩ | ⟨h4, h5, h6⟩⟩ | ⟨_, h2, h3, h4⟩ <;> omega

set_option maxHeartbeats 8000000 in
theorem walk (zs : List Int) (v0 : Value) {w : World} (hr0 : Reads w 1 v0 zs.length (zs.map (Value.int .i64))) (_w0 : ∀ x ∈ zs, (Lit.int .i64 x).wf = true) (hlen : zs.length * 8 ≤ 140737488351232) (at_ : Int) (wat : (Lit.int .i64 at_).wf = true) (odd : Bool) :
    Calls Try.prog 5 #[v0, .int .i64 at_, .bool odd] w fun e w' => e = .returned (.bool true) ∧ Fr [] w w' := by
  obtain ⟨ap, cp, rfl⟩ : ∃ a c, v0 = .slice a zs.length c := by obtain ⟨_, a, c, h, _⟩ := hr0; exact ⟨a, c, h⟩
  have hr : -9223372036854775808 ≤ at_ ∧ at_ ≤ 9223372036854775807 := by simpa [Lit.wf, IntKind.min, IntKind.max, IntKind.signed, IntKind.bits] using wat
  have HR : Hid (∀ W, Fr [] w W → Reads W 1 (.slice ap zs.length cp) zs.length (zs.map (Value.int .i64))) := Lib.hid (fun W hW => hr0.fr0 hW)
  have HAT := Lib.hid hr
  clear hr0 _w0 wat hr
  obtain ⟨i0, hi0, hz0, hz1, hz2⟩ := info_parts info_int
  go_enter Try.func5, Try.ntmps5
  go_wp2_with fail
  refine (query_any zs ap cp w (HR.out w (Fr.refl _ _)) hlen).mono ?_
  rintro e w1 ⟨es, a, c, win, cap, rfl, hM, h1, h4, _⟩
  have HM := Lib.hid hM
  clear hM
  have HL0 : Hid (Law w (w1.alloc (.cells #[.slice a es.length c, .int .i64 win, .int .i64 cap] 38)) w1.heap.size es a c win cap) := Lib.hid
    ⟨Blk.new w1 [.slice a es.length c, .int .i64 win, .int .i64 cap] _, HM.out.view.alloc _, HM.out.fr.alloc _, fun g hg => by have := (HM.out.view.lt hg).2; omega, h4, HM.out.fr.size⟩
  clear HM
  go_upto_if 18 with (fail)
  obtain ⟨qb, hqb⟩ : ∃ q, q = w1.heap.size := ⟨_, rfl⟩
  obtain ⟨w2, hw2⟩ : ∃ W, W = w1.alloc (.cells #[.slice a es.length c, .int .i64 win, .int .i64 cap] 38) := ⟨_, rfl⟩
  rw [← hqb, ← hw2] at HL0
  rw [← hqb, ← hw2]
  clear hqb hw2
  go_cut [8] (fun v8 wx => ∃ es' : List El, es'.length = es.length ∧ Law w wx qb es' a c win cap)
  case first =>
    cases odd with
    | false =>
      go_wp2_with fail
      go_meet
      case rel => exact ⟨es, rfl, HL0.out⟩
    | true =>
      go_wp2_with fail
      go_loopw [8] (fun v8 wr => ∃ (k : Nat) (es' : List El), v8 = .int .i64 k ∧ k ≤ 4 ∧ es'.length = es.length ∧ Law w wr qb es' a c win cap) (fun v8 _ => 4 - (intOf v8).toNat)
      case atStart => exact ⟨0, es, rfl, by omega, rfl, HL0.out⟩
      case round =>
        obtain ⟨k, es', rfl, hk4, hle, hL⟩ := hrel
        have HL := Lib.hid hL
        have HLE := Lib.hid hle
        clear hL hle
        have q0 := HL.out.top.cell_at (o := 0) rfl
        by_cases hk : k < es'.length
        · have hk5 : k < 4 := by have := HL.out.len; omega
          obtain ⟨e, he⟩ : ∃ e, es'[k]? = some e := ⟨es'[k], by simp [hk]⟩
          obtain ⟨g, o, rfl⟩ := HL.out.view.reads.rec_addr El.len (by omega) he
          have hc : wr.cell? ⟨g, o + k * 6 + 2, none⟩ = some (.bool e.neg) := HL.out.view.reads.rec El.len he rfl
          have hi : k * 6 + 2 < (qcells es').length := by rw [qcells_len]; omega
          have hfz : ∀ o, wr.frozen? ⟨g, o, none⟩ = false := (view_set HL.out.view hi (.bool true)).2.1
          have HSET : Hid (∀ b, Law w (wr.setCell ⟨g, o + k * 6 + 2, none⟩ (.bool b)) qb (es'.set k { e with neg := b }) (some ⟨g, o, none⟩) c win cap) := Lib.hid (fun b => by
            have hv := view_set HL.out.view hi (.bool b)
            have hgq : g ≠ qb := HL.out.ne g rfl
            refine ⟨?_, ?_, HL.out.fr.set (.inr (Nat.le_of_succ_le hv.2.2)) _, fun x hx => by rw [List.length_set] at hx; exact HL.out.ne x hx, by rw [List.length_set]; exact HL.out.len, HL.out.lo⟩
            · rw [List.length_set]; exact HL.out.top.set_ne (by simpa using hgq.symm) _
            · have h := hv.1
              unfold qcells at h ⊢
              rw [recs_set El.len (a' := { e with neg := b }) he (by omega) rfl] at h
              rw [List.length_set, show o + k * 6 + 2 = o + (k * 6 + 2) by omega]
              exact h)
          have HK := Lib.hid hk
          have HQ0 : Hid (∀ b, (wr.setCell ⟨g, o + k * 6 + 2, none⟩ (.bool b)).cell? ⟨qb, 0, none⟩ = some (.slice (some ⟨g, o, none⟩) es'.length c)) := Lib.hid (fun b => by have := (HSET.out b).top.cell_at (o := 0) rfl; rwa [List.length_set] at this)
          clear he hi
          by_cases h1 : k < zs.length
          · obtain ⟨z, hz⟩ : ∃ z, zs[k]? = some z := ⟨zs[k], by simp [h1]⟩
            obtain ⟨b, o', rfl, hcz⟩ : ∃ b o, ap = some ⟨b, o, none⟩ ∧ wr.cell? ⟨b, o + k, none⟩ = some (.int .i64 z) := by
              obtain ⟨hl2, a', c', h1', _, h | ⟨b, o, h2, h⟩⟩ := HR.out wr HL.out.fr
              · rw [h] at hl2; simp at hl2; omega
              · simp at h1'
                exact ⟨b, o, by rw [h1'.1, h2], h _ _ (by rw [List.getElem?_map, hz]; rfl)⟩
            clear hz
            clear HL
            go_upto_region 6 with (fail)
            go_still_tail 21, (by kernel_rfl)
            go_wp2_with fail
            refine ⟨⟨k + 1, es'.set k { e with neg := bits .and .i64 z 1 == 1 }, rfl, by omega, by rw [List.length_set]; exact HLE.out, (HSET.out _).fr0 (Fr.refl _ _).drew⟩, ?_⟩
            simp [intOf]; omega
          · have h1' : zs.length ≤ k := by omega
            clear h1
            have hd1 : decide ((k : Int) < (zs.length : Int)) = false := decide_eq_false (by omega)
            have hd2 : ¬ ((k : Int) < (zs.length : Int)) := by omega
            cases ap with
            | none =>
              clear HL
              go_upto_region 6 with (fail)
              refine wp_region_tree_np (fun W => W.cell? ⟨qb, 0, none⟩ = some (.slice (some ⟨g, o, none⟩) es'.length c)) (.on 0 (.on 1 (.on 2 (.on 3 (.on 4 (.on 5 (.on 6 (.on 7 (.on 8 (.on 9 (.on 10 (.on 11 (.on 12 (.on 13 (.on 14 (.on 15 (.on 16 (.on 17 (.on 18 (.on 19 (.on 20 (.one 21 .nil)))))))))))))))))))))) (by kernel_rfl) (by kernel_rfl) q0 ?_
              iterate 21 (first | (refine ht_on (o := ?_) (v := ?_) ?_ ?_ (fun w hSw => ?_) ?_; rotate_left 2; (focus ((simp only [List.getElem?_toArray, List.getElem?_cons_succ, List.getElem?_cons_zero]); (try rfl); done)); (focus (rfl)); (focus (((try obtain _ := hSw); (try dsimp only at hSw); go_simp; (try with_reducible rfl)); done)); simp only [Act.put, List.setIfInBounds_toArray, List.set_cons_zero, List.set_cons_succ]) | (refine ht_off_light (o := ?_) ?_ ?_ ?_; rotate_left 1; (focus ((simp only [List.getElem?_toArray, List.getElem?_cons_succ, List.getElem?_cons_zero]); (try rfl); done)); (focus (rfl)); simp only [Act.put, List.setIfInBounds_toArray, List.set_cons_zero, List.set_cons_succ]))
              refine ht_one (o := ?_) ?_ ?_ (fun K hK => ?_)
              rotate_left 1
              (focus ((simp only [List.getElem?_toArray, List.getElem?_cons_succ, List.getElem?_cons_zero]); (try rfl); done))
              focus (rfl)
              have hc' : wr.drew.cell? ⟨g, o + k * 6 + 2, none⟩ = some (.bool e.neg) := hc
              have hfz' : ∀ o, wr.drew.frozen? ⟨g, o, none⟩ = false := hfz
              go_simp
              refine hK.out _ _ (HQ0.out _) (fun _ => ?_)
              try simp only [Act.put, List.setIfInBounds_toArray, List.set_cons_zero, List.set_cons_succ]
              refine ht_done_np ?_
              go_wp2_with fail
              refine ⟨⟨k + 1, es'.set k { e with neg := false }, rfl, by omega, by rw [List.length_set]; exact HLE.out, (HSET.out _).fr0 (Fr.refl _ _).drew⟩, ?_⟩
              simp [intOf]; omega
            | some ad =>
              clear HL
              go_upto_region 6 with (fail)
              refine wp_region_tree_np (fun W => W.cell? ⟨qb, 0, none⟩ = some (.slice (some ⟨g, o, none⟩) es'.length c)) (.on 0 (.on 1 (.on 2 (.on 3 (.on 4 (.on 5 (.on 6 (.on 7 (.on 8 (.on 9 (.on 10 (.on 11 (.on 12 (.on 13 (.on 14 (.on 15 (.on 16 (.on 17 (.on 18 (.on 19 (.on 20 (.one 21 .nil)))))))))))))))))))))) (by kernel_rfl) (by kernel_rfl) q0 ?_
              iterate 21 (first | (refine ht_on (o := ?_) (v := ?_) ?_ ?_ (fun w hSw => ?_) ?_; rotate_left 2; (focus ((simp only [List.getElem?_toArray, List.getElem?_cons_succ, List.getElem?_cons_zero]); (try rfl); done)); (focus (rfl)); (focus (((try obtain _ := hSw); (try dsimp only at hSw); go_simp; (try with_reducible rfl)); done)); simp only [Act.put, List.setIfInBounds_toArray, List.set_cons_zero, List.set_cons_succ]) | (refine ht_off_light (o := ?_) ?_ ?_ ?_; rotate_left 1; (focus ((simp only [List.getElem?_toArray, List.getElem?_cons_succ, List.getElem?_cons_zero]); (try rfl); done)); (focus (rfl)); simp only [Act.put, List.setIfInBounds_toArray, List.set_cons_zero, List.set_cons_succ]))
              refine ht_one (o := ?_) ?_ ?_ (fun K hK => ?_)
              rotate_left 1
              (focus ((simp only [List.getElem?_toArray, List.getElem?_cons_succ, List.getElem?_cons_zero]); (try rfl); done))
              focus (rfl)
              have hc' : wr.drew.cell? ⟨g, o + k * 6 + 2, none⟩ = some (.bool e.neg) := hc
              have hfz' : ∀ o, wr.drew.frozen? ⟨g, o, none⟩ = false := hfz
              go_simp
              refine hK.out _ _ (HQ0.out _) (fun _ => ?_)
              try simp only [Act.put, List.setIfInBounds_toArray, List.set_cons_zero, List.set_cons_succ]
              refine ht_done_np ?_
              go_wp2_with fail
              refine ⟨⟨k + 1, es'.set k { e with neg := false }, rfl, by omega, by rw [List.length_set]; exact HLE.out, (HSET.out _).fr0 (Fr.refl _ _).drew⟩, ?_⟩
              simp [intOf]; omega
        · go_wp2_with fail
          go_meet
          case rel => exact ⟨es', HLE.out, HL.out⟩
  case rest =>
    obtain ⟨es', hle, hL⟩ := hcut
    have HL := Lib.hid hL
    have HE1 : Hid (1 ≤ es'.length) := Lib.hid (by omega)
    clear hL hle HL0 h1 h4
    obtain ⟨w3, rfl⟩ : ∃ W, W = wc := ⟨_, rfl⟩
    obtain ⟨s, hs⟩ : ∃ s : Nat, s = (at_ + 1).toNat := ⟨_, rfl⟩
    have HS := Lib.hid hs
    clear hs
    go_wp2_with fail
    have VN : Hid (View (w3.alloc (.cells #[] 3)) (w3.heap.size) 3 1 (.slice (some ⟨w3.heap.size, 0, none⟩) 0 0) 0 []) := Lib.hid (View.of_blk (Blk.new w3 [] _) (Nat.le_refl _) rfl (by decide))
    have HQ3 : Hid (qb < w3.heap.size ∧ ∀ g, (Value.slice a es'.length c).ownBlock = some g → g < w3.heap.size) := Lib.hid ⟨HL.out.top.lt, fun g hg => (HL.out.view.lt hg).2⟩
    go_loopw [9, 10, 11, 12, 13] (fun v9 v10 v11 v12 v13 wr => ∃ (k m cb : Nat) (ab : Option Addr) (op : Bool) (nx : Int), v13 = .int .i64 k ∧ k ≤ es'.length ∧ v12 = .bool op ∧ v9 = .int .i64 nx ∧ v11 = .int .i64 (lastOf es' k) ∧ v10 = .slice ab m cb ∧ J es' s k m op nx ∧
      View wr w3.heap.size 3 1 (.slice ab m cb) m ((betw s m).map (Value.int .i64)) ∧ Fr [] w3 wr) (fun _ _ _ _ v13 _ => es'.length - (intOf v13).toNat)
    case atStart => exact ⟨0, 0, 0, some ⟨w3.heap.size, 0, none⟩, true, -1, rfl, by omega, rfl, rfl, rfl, rfl, .inl ⟨rfl, rfl, .inl ⟨by omega, rfl⟩⟩, VN.out, (Fr.refl _ _).alloc _⟩
    case round =>
      obtain ⟨k, m, cb, ab, op, nx, rfl, hk, rfl, rfl, rfl, rfl, hJ, hV, hF⟩ := hrel
      have HJ := Lib.hid hJ
      have HV := Lib.hid hV
      have HF := Lib.hid hF
      have HL1 := Lib.hid (HL.out.fr0 hF)
      clear hJ hV hF VN
      have q0 := HL1.out.top.cell_at (o := 0) rfl
      by_cases hkl : k < es'.length
      · obtain ⟨e, he⟩ : ∃ e, es'[k]? = some e := ⟨es'[k], by simp [hkl]⟩
        obtain ⟨g, o, rfl⟩ := HL1.out.view.reads.rec_addr El.len (by omega) he
        have hc : wr.cell? ⟨g, o + k * 6 + 2, none⟩ = some (.bool e.neg) := HL1.out.view.reads.rec El.len he rfl
        have hk4 : k < 4 := by have := HL1.out.len; omega
        have HLO := Lib.hid hkl
        by_cases hks : k < s
        · have hle : (k : Int) ≤ at_ := by have := HS.out; omega
          obtain ⟨hJ2, rfl⟩ := HJ.out.low hks
          have HJ2 := Lib.hid hJ2
          clear HJ hJ2
          cases hn : e.neg with
          | true =>
            have HN := Lib.hid (lastOf_neg he hn)
            rw [hn] at hc
            clear he hn
            go_wp2_with fail
            go_roundw
            case rel => exact ⟨k + 1, m, cb, ab, true, nx, by go_num, by omega, rfl, rfl, by rw [HN.out], rfl, HJ2.out, HV.out, HF.out⟩
            case measure => simp [intOf]; omega
          | false =>
            have HN := Lib.hid (lastOf_pos he hn)
            rw [hn] at hc
            clear he hn
            go_wp2_with fail
            go_roundw
            case rel => exact ⟨k + 1, m, cb, ab, true, nx, by go_num, by omega, rfl, rfl, by rw [HN.out], rfl, HJ2.out, HV.out, HF.out⟩
            case measure => simp [intOf]; omega
        · have hsk : s ≤ k := by omega
          have hle : at_ < (k : Int) := by have := HS.out; omega
          cases hn : e.neg with
          | true =>
            have HN := Lib.hid (lastOf_neg he hn)
            cases op with
            | true =>
              obtain ⟨hJ2, hsm⟩ := HJ.out.neg_open hsk he hn
              have HJ2 := Lib.hid hJ2
              have HSM := Lib.hid hsm
              have hm4 := HJ.out.le hk HL1.out.len
              have HM4 := Lib.hid hm4
              rw [hn] at hc
              clear he hn hJ2 hsm HJ hm4
              go_wp2_with (first | (at_builtin; refine wpList_append_view _ rfl _ _ 35 rfl w3.heap.size 3 i0 (.int .i64 0) 1 8 Try.underlying35 hi0 hz0 hz1 hz2 rfl _ _ m _ rfl (HV.out.alloc _) _ 1 [.int .i64 k] rfl (reads_one _ _ _) (by simp [Value.oneCell']) (by unfold maxLen; have := HM4.out; omega) (by have := HM4.out; omega) (by have := HF.out.size; simp; omega) ?_; intro a' c' w' hv' hg' hat'; have HV' := Lib.hid hv'; have HG' := Lib.hid hg'; clear hv' hg' hat'))
              go_roundw
              case rel =>
                refine ⟨k + 1, m + 1, c', a', true, nx, by go_num, by omega, rfl, rfl, by rw [HN.out], rfl, HJ2.out, ?_, ?_⟩
                · rw [betw_succ, List.map_append, HSM.out]; exact HV'.out
                · exact (HF.out.alloc _).grown HG'.out (fun j hj => .inr (HV.out.lt hj).1)
              case measure => simp [intOf]; omega
            | false =>
              obtain ⟨hJ2, h0⟩ := HJ.out.shut
              have HJ2 := Lib.hid hJ2
              rw [hn] at hc
              clear he hn hJ2 HJ
              go_wp2_with fail
              go_roundw
              case rel => exact ⟨k + 1, m, cb, ab, false, nx, by go_num, by omega, rfl, rfl, by rw [HN.out], rfl, HJ2.out, HV.out, HF.out⟩
              case measure => simp [intOf]; omega
          | false =>
            have HN := Lib.hid (lastOf_pos he hn)
            cases op with
            | true =>
              obtain ⟨hJ2, rfl⟩ := HJ.out.pos_open hsk he hn
              have HJ2 := Lib.hid hJ2
              rw [hn] at hc
              clear he hn hJ2 HJ
              go_wp2_with fail
              go_roundw
              case rel => exact ⟨k + 1, m, cb, ab, false, k, by go_num, by omega, rfl, rfl, by rw [HN.out], rfl, HJ2.out, HV.out, HF.out⟩
              case measure => simp [intOf]; omega
            | false =>
              obtain ⟨hJ2, h0⟩ := HJ.out.shut
              have HJ2 := Lib.hid hJ2
              rw [hn] at hc
              clear he hn hJ2 HJ
              go_wp2_with fail
              go_roundw
              case rel => exact ⟨k + 1, m, cb, ab, false, nx, by go_num, by omega, rfl, rfl, by rw [HN.out], rfl, HJ2.out, HV.out, HF.out⟩
              case measure => simp [intOf]; omega
      · obtain rfl : k = es'.length := by omega
        obtain ⟨hm, hnx⟩ := HJ.out.end_
        have q1 := HL1.out.top.cell_at (o := 1) rfl
        have q2 := HL1.out.top.cell_at (o := 2) rfl
        have HM := Lib.hid hm
        have HNX := Lib.hid hnx
        clear hm hnx HJ
        go_wp2_with fail
        refine (between_any a c _ _ es' at_ HAT.out wr HL1.out.view.reads (by have := HL1.out.len; omega)).mono ?_
        rintro e w4 ⟨a4, c4, rfl, hV4, hF4⟩
        rw [← HS.out, ← HM.out] at hV4
        rw [← HS.out, ← HM.out]
        have HV4 := Lib.hid hV4
        have HF4 := Lib.hid hF4
        clear hV4 hF4 q0 q1 q2
        obtain ⟨w5, rfl⟩ : ∃ W, W = wr := ⟨_, rfl⟩
        have HL4 := Lib.hid (HL1.out.fr0 HF4.out)
        have HVB := Lib.hid (HV.out.fr0 HF4.out)
        have HM4 : m ≤ 4 := by
          have h1 := negs_le es' s
          have h2 := HL1.out.len
          have h3 := HM.out
          omega
        clear HV HF HL1 HL HF4 HQ3
        go_wp2_with fail
        go_loopw [15] (fun v15 wx => ∃ (j : Nat), v15 = .int .i64 j ∧ j ≤ m ∧ Fr [] w4 wx) (fun v15 _ => m - (intOf v15).toNat)
        case atStart => exact ⟨0, rfl, by omega, Fr.refl _ _⟩
        case round =>
          obtain ⟨j, rfl, hj, hF⟩ := hrel
          have HFX := Lib.hid hF
          clear hF
          by_cases hjm : j < m
          · obtain ⟨g1, o1, rfl, hc1⟩ := ints_at (HVB.out.fr0 HFX.out).reads (betw_get hjm)
            obtain ⟨g2, o2, rfl, hc2⟩ := ints_at (HV4.out.fr0 HFX.out).reads (betw_get hjm)
            go_upto_region 27 with (fail)
            go_quiet (fail)
            go_wp2_with fail
            go_roundw
            case rel => exact ⟨j + 1, by go_num, by omega, HFX.out.drewN _⟩
            case measure => simp [intOf]; omega
          · go_wp2_with fail
            refine (awake_any _).mono ?_
            rintro e w6 ⟨rfl, hf⟩
            have HL6 := Lib.hid ((HL4.out.fr0 HFX.out).fr0 hf)
            clear hf HL4 HFX HVB HV4
            have q0 := HL6.out.top.cell_at (o := 0) rfl
            have q1 := HL6.out.top.cell_at (o := 1) rfl
            have q2 := HL6.out.top.cell_at (o := 2) rfl
            go_wp2_with fail
            refine (next_any a c _ _ es' at_ HAT.out w6 HL6.out.view.reads (by have := HL6.out.len; omega)).mono ?_
            rintro e w7 ⟨rfl, hf⟩
            rw [← HS.out, ← HNX.out]
            have HL7 := Lib.hid (HL6.out.fr0 hf)
            clear hf HL6 q0 q1 q2
            have q0 := HL7.out.top.cell_at (o := 0) rfl
            have q1 := HL7.out.top.cell_at (o := 1) rfl
            have q2 := HL7.out.top.cell_at (o := 2) rfl
            go_wp2_with fail
            refine (last_any a c _ _ es' w7 HL7.out.view.reads (by have := HL7.out.len; omega)).mono ?_
            rintro e w8 ⟨rfl, hf⟩
            have HF8 := Lib.hid (HL7.out.fr0 hf).fr
            clear hf HL7 q0 q1 q2
            go_wp2_with fail
            go_ret
            exact ⟨rfl, HF8.out⟩
end Go.Proofs.Ytcnoaflojojfkaa.PatParts
