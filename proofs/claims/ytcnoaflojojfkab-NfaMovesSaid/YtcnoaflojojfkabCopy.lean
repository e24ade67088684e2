/- pat.Copy: a query of one's own, alike. No condition. -/
import Derived.Test.YtcnoaflojojfkabClone
import Derived.Test.YtcnoaflojojfkabQuery
namespace Go.Proofs.Ytcnoaflojojfkab.Qry
open Go.RowKit Go.Proofs.Ytcnoaflojojfkab.Pat
set_option linter.unusedVariables false
set_option linter.unusedSimpArgs false
set_option maxRecDepth 100000
/-- a cell of one's own slice is written -/
theorem view_set {w : World} {B e size n c g off : Nat} {xs : List Value} (h : View w B e size (.slice (some ⟨g, off, none⟩) n c) n xs) {i : Nat} (hi : i < xs.length) (v : Value) :
    View (w.setCell ⟨g, off + i, none⟩ v) B e size (.slice (some ⟨g, off, none⟩) n c) n (xs.set i v) ∧ (∀ o, w.frozen? ⟨g, o, none⟩ = false) ∧ B ≤ g := by
  obtain ⟨hl, ⟨h0, _⟩ | ⟨g', off', cap', cs, hv, hB, hb, hn, hm, hf, ht⟩⟩ := h
  · cases h0
  · simp only [Value.slice.injEq, Option.some.injEq, Addr.mk.injEq, and_true, true_and] at hv
    obtain ⟨⟨rfl, rfl⟩, rfl⟩ := hv
    refine ⟨⟨by rw [List.length_set]; exact hl, .inr ⟨g, off, c, cs.set (off + i) v, rfl, hB, hb.set _ _, hn, hm, by rw [List.length_set]; exact hf, ?_⟩⟩, hb.thawed, hB⟩
    rw [← ht, List.drop_set, if_neg (by omega), List.take_set, show off + i - off = i by omega]
theorem view_rec {α : Type} {f : α → List Value} {s : Nat} (hf : ∀ a, (f a).length = s) {w : World} {B e n c g off : Nat} {l : List α} (h : View w B e s (.slice (some ⟨g, off, none⟩) n c) n (l.flatMap f)) {i : Nat} {a a' : α} (hi : l[i]? = some a) {k : Nat} (hk : k < s) {v : Value} (hv : f a' = (f a).set k v) :
    View (w.setCell ⟨g, off + i * s + k, none⟩ v) B e s (.slice (some ⟨g, off, none⟩) n c) n ((l.set i a').flatMap f) ∧ (∀ o, w.frozen? ⟨g, o, none⟩ = false) ∧ B ≤ g := by
  have hlt : i * s + k < (l.flatMap f).length := by
    rw [recs_len hf]
    have h1 := (List.getElem?_eq_some_iff.1 hi).1
    have h2 : (i + 1) * s ≤ l.length * s := Nat.mul_le_mul_right _ h1
    rw [Nat.succ_mul] at h2; omega
  have := view_set h hlt v
  rw [recs_set hf hi hk hv, ← Nat.add_assoc] at this
  exact this
/-- lists of elements that are alike, wherever their slices lie -/
def Like (es es' : List El) : Prop := es'.length = es.length ∧ ∀ (i : Nat) (e e' : El), es[i]? = some e → es'[i]? = some e' → e'.var = e.var ∧ e'.neg = e.neg ∧ e'.mn = e.mn ∧ e'.mx = e.mx
theorem Like.refl (es : List El) : Like es es := ⟨rfl, fun i e e' h h' => by
  have h2 : some e = some e' := h.symm.trans h'
  obtain rfl : e = e' := by simpa using h2
  exact ⟨rfl, rfl, rfl, rfl⟩⟩
theorem Like.set {es es' : List El} (h : Like es es') {k : Nat} {e e' : El} (he : es[k]? = some e) (h1 : e'.var = e.var) (h2 : e'.neg = e.neg) (h3 : e'.mn = e.mn) (h4 : e'.mx = e.mx) : Like es (es'.set k e') := by
  refine ⟨by rw [List.length_set]; exact h.1, fun i x x' hx hx' => ?_⟩
  rw [List.getElem?_set] at hx'
  split at hx'
  · rename_i hki
    subst hki
    split at hx'
    · obtain rfl : e' = x' := by simpa using hx'
      rw [he] at hx
      obtain rfl : e = x := by simpa using hx
      exact ⟨h1, h2, h3, h4⟩
    · cases hx'
  · exact h.2 i x x' hx hx'
theorem strs_one (ts : List ByteArray) : ∀ u ∈ ts.map Value.string, u.oneCell' = true := by
  intro u hu
  obtain ⟨x, _, rfl⟩ := List.mem_map.1 hu
  rfl
theorem nodes_one (ns : List Nd) : ∀ u ∈ ns.flatMap Nd.cells, u.oneCell' = true := by
  intro u hu
  obtain ⟨x, _, h⟩ := List.mem_flatMap.1 hu
  simp only [Nd.cells, List.mem_cons, List.not_mem_nil, or_false] at h
  rcases h with rfl | rfl | rfl | rfl | rfl | rfl | rfl <;> rfl
theorem els_one (es : List El) : ∀ u ∈ qcells es, u.oneCell' = true := by
  intro u hu
  obtain ⟨x, _, h⟩ := List.mem_flatMap.1 hu
  simp only [El.cells, List.mem_cons, List.not_mem_nil, or_false] at h
  rcases h with rfl | rfl | rfl | rfl | rfl | rfl <;> rfl

/-- slices that can be read -/
def Sees (W : World) (e : El) : Prop := (∃ ts : List ByteArray, e.tn ≤ 3 ∧ Reads W 1 (.slice e.ta e.tn e.tc) e.tn (ts.map Value.string)) ∧ ∃ ns : List Nd, e.pn ≤ 7 ∧ Reads W 7 (.slice e.pa e.pn e.pc) e.pn (ns.flatMap Nd.cells)
theorem Held.sees {W : World} {e : El} (h : Held W e) : Sees W e := by
  obtain ⟨⟨ts, h1, h2, h3, h4⟩, ns, h5, h6, h7⟩ := h
  exact ⟨⟨ts, h3, h4⟩, ns, h6, h7⟩
set_option maxHeartbeats 8000000 in
theorem copy_any (es : List El) (a : Option Addr) (c : Nat) (win cap : Int) (w : World) (hR : Reads w 6 (.slice a es.length c) es.length (qcells es)) (hH : ∀ e ∈ es, Sees w e) (hl : es.length ≤ 4) :
    Calls Try.prog 89 #[.agg #[.slice a es.length c, .int .i64 win, .int .i64 cap]] w fun e w' => ∃ (es' : List El) (a' : Option Addr) (c' : Nat), e = .returned (.agg #[.slice a' es'.length c', .int .i64 win, .int .i64 cap]) ∧ Like es es' ∧
      View w' w.heap.size 83 6 (.slice a' es'.length c') es'.length (qcells es') ∧ Fr [] w w' := by
  have HR := Lib.hid hR
  have HH := Lib.hid hH
  clear hR hH
  go_enter Try.func89, Try.ntmps89
  go_wp2_with fail
  have hn2 := new2 w [.slice a es.length c, .int .i64 win, .int .i64 cap] 67 [.slice none 0 0, .int .i64 0, .int .i64 0] 67
  obtain ⟨wn, hwn⟩ : ∃ W, W = (w.alloc (.cells [.slice a es.length c, .int .i64 win, .int .i64 cap].toArray 67)).alloc (.cells [.slice none 0 0, .int .i64 0, .int .i64 0].toArray 67) := ⟨_, rfl⟩
  rw [← hwn] at hn2
  have hsz : wn.heap.size = w.heap.size + 2 := by rw [hwn]; simp
  obtain ⟨h1, h2, h3⟩ := hn2
  have hr1 : Reads wn 6 (.slice a es.length c) es.length (qcells es) := HR.out.fr0 h3
  rw [show (w.alloc (.cells #[.slice a es.length c, .int .i64 win, .int .i64 cap] 67)).alloc (.cells #[.slice none 0 0, .int .i64 0, .int .i64 0] 67) = wn from hwn.symm]
  clear hwn
  refine (clone_elems a es.length c (qcells es) wn hr1 (els_one es) (by omega)).mono ?_
  rintro _ w3 ⟨a3, c3, rfl, hV, hf⟩
  rw [hsz] at hV
  have HV0 := Lib.hid hV
  have HB1 := Lib.hid (h1.fr hf (by simp))
  have HB2 := Lib.hid (h2.fr hf (by simp))
  have HF0 := Lib.hid (h3.trans0 hf)
  clear h1 h2 h3 hr1 hV hf hsz
  have q0 := HB1.out.cell_at (o := 0) rfl
  have hfz := HB1.out.thawed
  go_upto_region 2 with (fail)
  have HS1 : Hid (Blk (w3.setCell ⟨w.heap.size, 0, none⟩ (.slice a3 es.length c3)) w.heap.size [.slice a3 es.length c3, .int .i64 win, .int .i64 cap] 67) := Lib.hid (HB1.out.set 0 _)
  have hfs : Fr [w.heap.size] w3 (w3.setCell ⟨w.heap.size, 0, none⟩ (.slice a3 es.length c3)) := (Fr.refl _ _).set (.inl (by simp)) _
  have HS2 := Lib.hid (HB2.out.fr hfs (by simp))
  have HSV := Lib.hid (HV0.out.fr hfs (fun g hg => by have := (HV0.out.lt hg).1; simp; omega))
  have HSF := Lib.hid (HF0.out.trans hfs (fun b hb => .inr (by simp at hb; omega)))
  clear hfs q0 hfz HB1 HB2 HV0 HF0
  obtain ⟨w4, hw4⟩ : ∃ W, W = w3.setCell ⟨w.heap.size, 0, none⟩ (.slice a3 es.length c3) := ⟨_, rfl⟩
  rw [← hw4] at HS1 HS2 HSV HSF ⊢
  clear hw4
  have q0 := HS1.out.cell_at (o := 0) rfl
  go_wp2_with fail
  clear q0
  go_loopw [3, 4, 12] (fun v3 v4 v12 wr => ∃ (es' : List El) (k : Nat), v12 = .int .i64 k ∧ k ≤ es.length ∧ Like es es' ∧ (∀ (i : Nat) (e : El), k ≤ i → es[i]? = some e → es'[i]? = some e) ∧
    View wr (w.heap.size + 2) 83 6 (.slice a3 es.length c3) es.length (qcells es') ∧ Blk wr w.heap.size [.slice a3 es.length c3, .int .i64 win, .int .i64 cap] 67 ∧
    Blk wr (w.heap.size + 1) [.slice none 0 0, .int .i64 0, .int .i64 0] 67 ∧ Fr [] w wr) (fun _ _ v12 _ => es.length - (intOf v12).toNat)
  case atStart => exact ⟨es, 0, rfl, Nat.zero_le _, Like.refl es, fun i e _ h => h, HSV.out, HS1.out, HS2.out, HSF.out⟩
  case round =>
    obtain ⟨es', k, rfl, hk, hLk, hRs, hV, hB1, hB2, hF⟩ := hrel
    have HLK := Lib.hid hLk
    have HRS := Lib.hid hRs
    have HV := Lib.hid hV
    have HB1 := Lib.hid hB1
    have HB2 := Lib.hid hB2
    have HF := Lib.hid hF
    clear hLk hRs hV hB1 hB2 hF HS1 HS2 HSV HSF
    by_cases hkl : k < es.length
    · obtain ⟨e, he⟩ : ∃ e, es[k]? = some e := ⟨es[k], by simp [hkl]⟩
      have he1 : es'[k]? = some e := HRS.out k e (Nat.le_refl _) he
      have HEE := Lib.hid he
      have HE1 := Lib.hid he1
      obtain ⟨⟨ts, ht3, hts⟩, ns, hp7, hns⟩ := HH.out e (List.mem_of_getElem? he)
      have HTN := Lib.hid (And.intro ht3 hp7)
      have HTS : Hid (∀ W, Fr [] wr W → Reads W 1 (.slice e.ta e.tn e.tc) e.tn (ts.map Value.string)) := Lib.hid (fun W hW => hts.fr0 (HF.out.trans0 hW))
      have HNS : Hid (∀ W, Fr [] wr W → Reads W 7 (.slice e.pa e.pn e.pc) e.pn (ns.flatMap Nd.cells)) := Lib.hid (fun W hW => hns.fr0 (HF.out.trans0 hW))
      obtain ⟨g, o, rfl⟩ : ∃ g o, a3 = some ⟨g, o, none⟩ := HV.out.reads.rec_addr El.len (by omega) he1
      have hc1 : Hid (wr.cell? ⟨g, o + k * 6 + 1, none⟩ = some (.slice e.ta e.tn e.tc)) := Lib.hid (HV.out.reads.rec El.len he1 rfl)
      have hc5 : Hid (wr.cell? ⟨g, o + k * 6 + 5, none⟩ = some (.slice e.pa e.pn e.pc)) := Lib.hid (HV.out.reads.rec El.len he1 rfl)
      have q0 := HB1.out.cell_at (o := 0) rfl
      clear he he1 ht3 hp7 hts hns
      go_upto_region 6 with (fail)
      clear q0
      refine wp_region_tree_np (fun _ => True) (.on 0 (.on 1 (.on 2 (.on 3 (.on 4 (.on 7 (.on 8 (.on 9 (.two 5 (.two 6 (.one 10 (.one 11 (.on 12 (.on 13 (.one 14 (.on 15 (.on 16 (.one 17 .nil)))))))) 10 (.one 6 (.one 11 (.on 12 (.on 13 (.one 14 (.on 15 (.on 16 (.one 17 .nil))))))))) 10 (.one 5 (.one 6 (.one 11 (.on 12 (.on 13 (.one 14 (.on 15 (.on 16 (.one 17 .nil)))))))))))))))))) (by kernel_rfl) (by kernel_rfl) trivial ?_
      have F0 : Hid (Fr [] wr wr.drew) := Lib.hid (Fr.refl _ _).drew
      obtain ⟨w0, hw0⟩ : ∃ W, W = wr.drew := ⟨_, rfl⟩
      rw [← hw0] at F0 ⊢
      clear hw0
      iterate 8 (first | (refine ht_on (o := ?_) (v := ?_) ?_ ?_ (fun w hSw => ?_) ?_; rotate_left 2; (focus ((simp only [List.getElem?_toArray, List.getElem?_cons_succ, List.getElem?_cons_zero]); (try rfl); done)); (focus (rfl)); (focus (((try obtain _ := hSw); (try dsimp only at hSw); go_simp; (try with_reducible rfl)); done)); simp only [Act.put, List.setIfInBounds_toArray, List.set_cons_zero, List.set_cons_succ]) | (refine ht_off_light (o := ?_) ?_ ?_ ?_; rotate_left 1; (focus ((simp only [List.getElem?_toArray, List.getElem?_cons_succ, List.getElem?_cons_zero]); (try rfl); done)); (focus (rfl)); simp only [Act.put, List.setIfInBounds_toArray, List.set_cons_zero, List.set_cons_succ]))
      refine ht_two (o := ?_) (o' := ?_) ?_ ?_ ?_ ?_ (fun K hK => ?_) (fun K hK => ?_)
      rotate_left 2
      (focus ((simp only [List.getElem?_toArray, List.getElem?_cons_succ, List.getElem?_cons_zero]); (try rfl); done))
      focus (rfl)
      (focus ((simp only [List.getElem?_toArray, List.getElem?_cons_succ, List.getElem?_cons_zero]); (try rfl); done))
      focus (rfl)
      · have c1 := F0.out.cell hc1.out (by simp)
        go_simp
        clear c1
        refine hK.out _ _ trivial (fun _ => ?_)
        try simp only [Act.put, List.setIfInBounds_toArray, List.set_cons_zero, List.set_cons_succ]
        refine ht_two (o := ?_) (o' := ?_) ?_ ?_ ?_ ?_ (fun K hK => ?_) (fun K hK => ?_)
        rotate_left 2
        (focus ((simp only [List.getElem?_toArray, List.getElem?_cons_succ, List.getElem?_cons_zero]); (try rfl); done))
        focus (rfl)
        (focus ((simp only [List.getElem?_toArray, List.getElem?_cons_succ, List.getElem?_cons_zero]); (try rfl); done))
        focus (rfl)
        · go_simp
          refine (clone_strs e.ta e.tn e.tc (ts.map Value.string) _ (HTS.out _ F0.out) (strs_one ts) (by have := HTN.out; omega)).mono ?_
          rintro _ w1 ⟨ta', tc', rfl, _, hf⟩
          have F1 : Hid (Fr [] wr w1) := Lib.hid (F0.out.trans0 hf)
          clear hf
          refine hK.out _ _ trivial (fun _ => ?_)
          try simp only [Act.put, List.setIfInBounds_toArray, List.set_cons_zero, List.set_cons_succ]
          refine ht_one (o := ?_) ?_ ?_ (fun K hK => ?_)
          rotate_left 1
          (focus ((simp only [List.getElem?_toArray, List.getElem?_cons_succ, List.getElem?_cons_zero]); (try rfl); done))
          focus (rfl)
          have c5 := F1.out.cell hc5.out (by simp)
          go_simp
          clear c5
          refine hK.out _ _ trivial (fun _ => ?_)
          try simp only [Act.put, List.setIfInBounds_toArray, List.set_cons_zero, List.set_cons_succ]
          refine ht_one (o := ?_) ?_ ?_ (fun K hK => ?_)
          rotate_left 1
          (focus ((simp only [List.getElem?_toArray, List.getElem?_cons_succ, List.getElem?_cons_zero]); (try rfl); done))
          focus (rfl)
          go_simp
          refine (clone_nodes e.pa e.pn e.pc (ns.flatMap Nd.cells) _ (HNS.out _ F1.out) (nodes_one ns) (by have := HTN.out; omega)).mono ?_
          rintro _ w2 ⟨pa', pc', rfl, _, hf⟩
          have F2 : Hid (Fr [] wr w2) := Lib.hid (F1.out.trans0 hf)
          clear hf
          refine hK.out _ _ trivial (fun _ => ?_)
          try simp only [Act.put, List.setIfInBounds_toArray, List.set_cons_zero, List.set_cons_succ]
          iterate 2 (first | (refine ht_on (o := ?_) (v := ?_) ?_ ?_ (fun w hSw => ?_) ?_; rotate_left 2; (focus ((simp only [List.getElem?_toArray, List.getElem?_cons_succ, List.getElem?_cons_zero]); (try rfl); done)); (focus (rfl)); (focus (((try obtain _ := hSw); (try dsimp only at hSw); go_simp; (try with_reducible rfl)); done)); simp only [Act.put, List.setIfInBounds_toArray, List.set_cons_zero, List.set_cons_succ]) | (refine ht_off_light (o := ?_) ?_ ?_ ?_; rotate_left 1; (focus ((simp only [List.getElem?_toArray, List.getElem?_cons_succ, List.getElem?_cons_zero]); (try rfl); done)); (focus (rfl)); simp only [Act.put, List.setIfInBounds_toArray, List.set_cons_zero, List.set_cons_succ]))
          refine ht_one (o := ?_) ?_ ?_ (fun K hK => ?_)
          rotate_left 1
          (focus ((simp only [List.getElem?_toArray, List.getElem?_cons_succ, List.getElem?_cons_zero]); (try rfl); done))
          focus (rfl)
          have c1 := F2.out.cell hc1.out (by simp)
          have hs := view_rec El.len (HV.out.fr0 F2.out) HE1.out (a' := { e with ta := ta', tc := tc' }) (k := 1) (by omega) (v := .slice ta' e.tn tc') rfl
          have hfz := hs.2.1
          have VV := Lib.hid hs.1
          clear hs
          go_simp
          clear c1 hfz
          have F3 : Hid (Fr [] wr w2) := F2
          refine hK.out _ _ trivial (fun _ => ?_)
          try simp only [Act.put, List.setIfInBounds_toArray, List.set_cons_zero, List.set_cons_succ]
          iterate 2 (first | (refine ht_on (o := ?_) (v := ?_) ?_ ?_ (fun w hSw => ?_) ?_; rotate_left 2; (focus ((simp only [List.getElem?_toArray, List.getElem?_cons_succ, List.getElem?_cons_zero]); (try rfl); done)); (focus (rfl)); (focus (((try obtain _ := hSw); (try dsimp only at hSw); go_simp; (try with_reducible rfl)); done)); simp only [Act.put, List.setIfInBounds_toArray, List.set_cons_zero, List.set_cons_succ]) | (refine ht_off_light (o := ?_) ?_ ?_ ?_; rotate_left 1; (focus ((simp only [List.getElem?_toArray, List.getElem?_cons_succ, List.getElem?_cons_zero]); (try rfl); done)); (focus (rfl)); simp only [Act.put, List.setIfInBounds_toArray, List.set_cons_zero, List.set_cons_succ]))
          refine ht_one (o := ?_) ?_ ?_ (fun K hK => ?_)
          rotate_left 1
          (focus ((simp only [List.getElem?_toArray, List.getElem?_cons_succ, List.getElem?_cons_zero]); (try rfl); done))
          focus (rfl)
          have he1 : (es'.set k { e with ta := ta', tc := tc' })[k]? = some { e with ta := ta', tc := tc' } := by rw [List.getElem?_set_self (List.getElem?_eq_some_iff.1 HE1.out).1]
          have c5 : (w2.setCell ⟨g, o + k * 6 + 1, none⟩ (.slice ta' e.tn tc')).cell? ⟨g, o + k * 6 + 5, none⟩ = some (.slice e.pa e.pn e.pc) := VV.out.reads.rec El.len he1 rfl
          have hs := view_rec El.len VV.out he1 (a' := { e with ta := ta', tc := tc', pa := pa', pc := pc' }) (k := 5) (by omega) (v := .slice pa' e.pn pc') rfl
          have hfz := hs.2.1
          have VV2 := Lib.hid hs.1
          have HG2 := Lib.hid hs.2.2
          clear hs he1
          go_simp
          clear c5 hfz
          refine hK.out _ _ trivial (fun _ => ?_)
          try simp only [Act.put, List.setIfInBounds_toArray, List.set_cons_zero, List.set_cons_succ]
          refine ht_done_np ?_
          go_wp2_with fail
          go_roundw
          case rel =>
            have hF : Fr [g] w2 ((w2.setCell ⟨g, o + k * 6 + 1, none⟩ (.slice ta' e.tn tc')).setCell ⟨g, o + k * 6 + 5, none⟩ (.slice pa' e.pn pc')) := ((Fr.refl _ _).set (.inl (by simp)) _).set (.inl (by simp)) _
            have hg : w.heap.size + 2 ≤ g := HG2.out
            have hV := VV2.out
            rw [List.set_set] at hV
            exact ⟨es'.set k { e with ta := ta', tc := tc', pa := pa', pc := pc' }, k + 1, by go_num, by omega, HLK.out.set HEE.out rfl rfl rfl rfl, fun i x hi hx => by rw [List.getElem?_set_ne (by omega)]; exact HRS.out i x (by omega) hx, hV,
              (HB1.out.fr F2.out (by simp)).fr hF (by simp; omega), (HB2.out.fr F2.out (by simp)).fr hF (by simp; omega), (HF.out.trans0 F2.out).trans hF (fun x hx => .inr (by simp at hx; omega))⟩
          case measure => simp [intOf]; omega
        · have c5 := F0.out.cell hc5.out (by simp)
          go_simp
          clear c5
          refine hK.out _ _ trivial (fun _ => ?_)
          try simp only [Act.put, List.setIfInBounds_toArray, List.set_cons_zero, List.set_cons_succ]
          refine ht_one (o := ?_) ?_ ?_ (fun K hK => ?_)
          rotate_left 1
          (focus ((simp only [List.getElem?_toArray, List.getElem?_cons_succ, List.getElem?_cons_zero]); (try rfl); done))
          focus (rfl)
          go_simp
          refine (clone_strs e.ta e.tn e.tc (ts.map Value.string) _ (HTS.out _ F0.out) (strs_one ts) (by have := HTN.out; omega)).mono ?_
          rintro _ w1 ⟨ta', tc', rfl, _, hf⟩
          have F1 : Hid (Fr [] wr w1) := Lib.hid (F0.out.trans0 hf)
          clear hf
          refine hK.out _ _ trivial (fun _ => ?_)
          try simp only [Act.put, List.setIfInBounds_toArray, List.set_cons_zero, List.set_cons_succ]
          refine ht_one (o := ?_) ?_ ?_ (fun K hK => ?_)
          rotate_left 1
          (focus ((simp only [List.getElem?_toArray, List.getElem?_cons_succ, List.getElem?_cons_zero]); (try rfl); done))
          focus (rfl)
          go_simp
          refine (clone_nodes e.pa e.pn e.pc (ns.flatMap Nd.cells) _ (HNS.out _ F1.out) (nodes_one ns) (by have := HTN.out; omega)).mono ?_
          rintro _ w2 ⟨pa', pc', rfl, _, hf⟩
          have F2 : Hid (Fr [] wr w2) := Lib.hid (F1.out.trans0 hf)
          clear hf
          refine hK.out _ _ trivial (fun _ => ?_)
          try simp only [Act.put, List.setIfInBounds_toArray, List.set_cons_zero, List.set_cons_succ]
          iterate 2 (first | (refine ht_on (o := ?_) (v := ?_) ?_ ?_ (fun w hSw => ?_) ?_; rotate_left 2; (focus ((simp only [List.getElem?_toArray, List.getElem?_cons_succ, List.getElem?_cons_zero]); (try rfl); done)); (focus (rfl)); (focus (((try obtain _ := hSw); (try dsimp only at hSw); go_simp; (try with_reducible rfl)); done)); simp only [Act.put, List.setIfInBounds_toArray, List.set_cons_zero, List.set_cons_succ]) | (refine ht_off_light (o := ?_) ?_ ?_ ?_; rotate_left 1; (focus ((simp only [List.getElem?_toArray, List.getElem?_cons_succ, List.getElem?_cons_zero]); (try rfl); done)); (focus (rfl)); simp only [Act.put, List.setIfInBounds_toArray, List.set_cons_zero, List.set_cons_succ]))
          refine ht_one (o := ?_) ?_ ?_ (fun K hK => ?_)
          rotate_left 1
          (focus ((simp only [List.getElem?_toArray, List.getElem?_cons_succ, List.getElem?_cons_zero]); (try rfl); done))
          focus (rfl)
          have c1 := F2.out.cell hc1.out (by simp)
          have hs := view_rec El.len (HV.out.fr0 F2.out) HE1.out (a' := { e with ta := ta', tc := tc' }) (k := 1) (by omega) (v := .slice ta' e.tn tc') rfl
          have hfz := hs.2.1
          have VV := Lib.hid hs.1
          clear hs
          go_simp
          clear c1 hfz
          have F3 : Hid (Fr [] wr w2) := F2
          refine hK.out _ _ trivial (fun _ => ?_)
          try simp only [Act.put, List.setIfInBounds_toArray, List.set_cons_zero, List.set_cons_succ]
          iterate 2 (first | (refine ht_on (o := ?_) (v := ?_) ?_ ?_ (fun w hSw => ?_) ?_; rotate_left 2; (focus ((simp only [List.getElem?_toArray, List.getElem?_cons_succ, List.getElem?_cons_zero]); (try rfl); done)); (focus (rfl)); (focus (((try obtain _ := hSw); (try dsimp only at hSw); go_simp; (try with_reducible rfl)); done)); simp only [Act.put, List.setIfInBounds_toArray, List.set_cons_zero, List.set_cons_succ]) | (refine ht_off_light (o := ?_) ?_ ?_ ?_; rotate_left 1; (focus ((simp only [List.getElem?_toArray, List.getElem?_cons_succ, List.getElem?_cons_zero]); (try rfl); done)); (focus (rfl)); simp only [Act.put, List.setIfInBounds_toArray, List.set_cons_zero, List.set_cons_succ]))
          refine ht_one (o := ?_) ?_ ?_ (fun K hK => ?_)
          rotate_left 1
          (focus ((simp only [List.getElem?_toArray, List.getElem?_cons_succ, List.getElem?_cons_zero]); (try rfl); done))
          focus (rfl)
          have he1 : (es'.set k { e with ta := ta', tc := tc' })[k]? = some { e with ta := ta', tc := tc' } := by rw [List.getElem?_set_self (List.getElem?_eq_some_iff.1 HE1.out).1]
          have c5 : (w2.setCell ⟨g, o + k * 6 + 1, none⟩ (.slice ta' e.tn tc')).cell? ⟨g, o + k * 6 + 5, none⟩ = some (.slice e.pa e.pn e.pc) := VV.out.reads.rec El.len he1 rfl
          have hs := view_rec El.len VV.out he1 (a' := { e with ta := ta', tc := tc', pa := pa', pc := pc' }) (k := 5) (by omega) (v := .slice pa' e.pn pc') rfl
          have hfz := hs.2.1
          have VV2 := Lib.hid hs.1
          have HG2 := Lib.hid hs.2.2
          clear hs he1
          go_simp
          clear c5 hfz
          refine hK.out _ _ trivial (fun _ => ?_)
          try simp only [Act.put, List.setIfInBounds_toArray, List.set_cons_zero, List.set_cons_succ]
          refine ht_done_np ?_
          go_wp2_with fail
          go_roundw
          case rel =>
            have hF : Fr [g] w2 ((w2.setCell ⟨g, o + k * 6 + 1, none⟩ (.slice ta' e.tn tc')).setCell ⟨g, o + k * 6 + 5, none⟩ (.slice pa' e.pn pc')) := ((Fr.refl _ _).set (.inl (by simp)) _).set (.inl (by simp)) _
            have hg : w.heap.size + 2 ≤ g := HG2.out
            have hV := VV2.out
            rw [List.set_set] at hV
            exact ⟨es'.set k { e with ta := ta', tc := tc', pa := pa', pc := pc' }, k + 1, by go_num, by omega, HLK.out.set HEE.out rfl rfl rfl rfl, fun i x hi hx => by rw [List.getElem?_set_ne (by omega)]; exact HRS.out i x (by omega) hx, hV,
              (HB1.out.fr F2.out (by simp)).fr hF (by simp; omega), (HB2.out.fr F2.out (by simp)).fr hF (by simp; omega), (HF.out.trans0 F2.out).trans hF (fun x hx => .inr (by simp at hx; omega))⟩
          case measure => simp [intOf]; omega
      · have c5 := F0.out.cell hc5.out (by simp)
        go_simp
        clear c5
        refine hK.out _ _ trivial (fun _ => ?_)
        try simp only [Act.put, List.setIfInBounds_toArray, List.set_cons_zero, List.set_cons_succ]
        refine ht_one (o := ?_) ?_ ?_ (fun K hK => ?_)
        rotate_left 1
        (focus ((simp only [List.getElem?_toArray, List.getElem?_cons_succ, List.getElem?_cons_zero]); (try rfl); done))
        focus (rfl)
        have c1 := F0.out.cell hc1.out (by simp)
        go_simp
        clear c1
        refine hK.out _ _ trivial (fun _ => ?_)
        try simp only [Act.put, List.setIfInBounds_toArray, List.set_cons_zero, List.set_cons_succ]
        refine ht_one (o := ?_) ?_ ?_ (fun K hK => ?_)
        rotate_left 1
        (focus ((simp only [List.getElem?_toArray, List.getElem?_cons_succ, List.getElem?_cons_zero]); (try rfl); done))
        focus (rfl)
        go_simp
        refine (clone_strs e.ta e.tn e.tc (ts.map Value.string) _ (HTS.out _ F0.out) (strs_one ts) (by have := HTN.out; omega)).mono ?_
        rintro _ w1 ⟨ta', tc', rfl, _, hf⟩
        have F1 : Hid (Fr [] wr w1) := Lib.hid (F0.out.trans0 hf)
        clear hf
        refine hK.out _ _ trivial (fun _ => ?_)
        try simp only [Act.put, List.setIfInBounds_toArray, List.set_cons_zero, List.set_cons_succ]
        refine ht_one (o := ?_) ?_ ?_ (fun K hK => ?_)
        rotate_left 1
        (focus ((simp only [List.getElem?_toArray, List.getElem?_cons_succ, List.getElem?_cons_zero]); (try rfl); done))
        focus (rfl)
        go_simp
        refine (clone_nodes e.pa e.pn e.pc (ns.flatMap Nd.cells) _ (HNS.out _ F1.out) (nodes_one ns) (by have := HTN.out; omega)).mono ?_
        rintro _ w2 ⟨pa', pc', rfl, _, hf⟩
        have F2 : Hid (Fr [] wr w2) := Lib.hid (F1.out.trans0 hf)
        clear hf
        refine hK.out _ _ trivial (fun _ => ?_)
        try simp only [Act.put, List.setIfInBounds_toArray, List.set_cons_zero, List.set_cons_succ]
        iterate 2 (first | (refine ht_on (o := ?_) (v := ?_) ?_ ?_ (fun w hSw => ?_) ?_; rotate_left 2; (focus ((simp only [List.getElem?_toArray, List.getElem?_cons_succ, List.getElem?_cons_zero]); (try rfl); done)); (focus (rfl)); (focus (((try obtain _ := hSw); (try dsimp only at hSw); go_simp; (try with_reducible rfl)); done)); simp only [Act.put, List.setIfInBounds_toArray, List.set_cons_zero, List.set_cons_succ]) | (refine ht_off_light (o := ?_) ?_ ?_ ?_; rotate_left 1; (focus ((simp only [List.getElem?_toArray, List.getElem?_cons_succ, List.getElem?_cons_zero]); (try rfl); done)); (focus (rfl)); simp only [Act.put, List.setIfInBounds_toArray, List.set_cons_zero, List.set_cons_succ]))
        refine ht_one (o := ?_) ?_ ?_ (fun K hK => ?_)
        rotate_left 1
        (focus ((simp only [List.getElem?_toArray, List.getElem?_cons_succ, List.getElem?_cons_zero]); (try rfl); done))
        focus (rfl)
        have c1 := F2.out.cell hc1.out (by simp)
        have hs := view_rec El.len (HV.out.fr0 F2.out) HE1.out (a' := { e with ta := ta', tc := tc' }) (k := 1) (by omega) (v := .slice ta' e.tn tc') rfl
        have hfz := hs.2.1
        have VV := Lib.hid hs.1
        clear hs
        go_simp
        clear c1 hfz
        have F3 : Hid (Fr [] wr w2) := F2
        refine hK.out _ _ trivial (fun _ => ?_)
        try simp only [Act.put, List.setIfInBounds_toArray, List.set_cons_zero, List.set_cons_succ]
        iterate 2 (first | (refine ht_on (o := ?_) (v := ?_) ?_ ?_ (fun w hSw => ?_) ?_; rotate_left 2; (focus ((simp only [List.getElem?_toArray, List.getElem?_cons_succ, List.getElem?_cons_zero]); (try rfl); done)); (focus (rfl)); (focus (((try obtain _ := hSw); (try dsimp only at hSw); go_simp; (try with_reducible rfl)); done)); simp only [Act.put, List.setIfInBounds_toArray, List.set_cons_zero, List.set_cons_succ]) | (refine ht_off_light (o := ?_) ?_ ?_ ?_; rotate_left 1; (focus ((simp only [List.getElem?_toArray, List.getElem?_cons_succ, List.getElem?_cons_zero]); (try rfl); done)); (focus (rfl)); simp only [Act.put, List.setIfInBounds_toArray, List.set_cons_zero, List.set_cons_succ]))
        refine ht_one (o := ?_) ?_ ?_ (fun K hK => ?_)
        rotate_left 1
        (focus ((simp only [List.getElem?_toArray, List.getElem?_cons_succ, List.getElem?_cons_zero]); (try rfl); done))
        focus (rfl)
        have he1 : (es'.set k { e with ta := ta', tc := tc' })[k]? = some { e with ta := ta', tc := tc' } := by rw [List.getElem?_set_self (List.getElem?_eq_some_iff.1 HE1.out).1]
        have c5 : (w2.setCell ⟨g, o + k * 6 + 1, none⟩ (.slice ta' e.tn tc')).cell? ⟨g, o + k * 6 + 5, none⟩ = some (.slice e.pa e.pn e.pc) := VV.out.reads.rec El.len he1 rfl
        have hs := view_rec El.len VV.out he1 (a' := { e with ta := ta', tc := tc', pa := pa', pc := pc' }) (k := 5) (by omega) (v := .slice pa' e.pn pc') rfl
        have hfz := hs.2.1
        have VV2 := Lib.hid hs.1
        have HG2 := Lib.hid hs.2.2
        clear hs he1
        go_simp
        clear c5 hfz
        refine hK.out _ _ trivial (fun _ => ?_)
        try simp only [Act.put, List.setIfInBounds_toArray, List.set_cons_zero, List.set_cons_succ]
        refine ht_done_np ?_
        go_wp2_with fail
        go_roundw
        case rel =>
          have hF : Fr [g] w2 ((w2.setCell ⟨g, o + k * 6 + 1, none⟩ (.slice ta' e.tn tc')).setCell ⟨g, o + k * 6 + 5, none⟩ (.slice pa' e.pn pc')) := ((Fr.refl _ _).set (.inl (by simp)) _).set (.inl (by simp)) _
          have hg : w.heap.size + 2 ≤ g := HG2.out
          have hV := VV2.out
          rw [List.set_set] at hV
          exact ⟨es'.set k { e with ta := ta', tc := tc', pa := pa', pc := pc' }, k + 1, by go_num, by omega, HLK.out.set HEE.out rfl rfl rfl rfl, fun i x hi hx => by rw [List.getElem?_set_ne (by omega)]; exact HRS.out i x (by omega) hx, hV,
            (HB1.out.fr F2.out (by simp)).fr hF (by simp; omega), (HB2.out.fr F2.out (by simp)).fr hF (by simp; omega), (HF.out.trans0 F2.out).trans hF (fun x hx => .inr (by simp at hx; omega))⟩
        case measure => simp [intOf]; omega
    · have q0 := HB1.out.cell_at (o := 0) rfl
      have q1 := HB1.out.cell_at (o := 1) rfl
      have q2 := HB1.out.cell_at (o := 2) rfl
      have r0 := HB2.out.cell_at (o := 0) rfl
      have r1 := HB2.out.cell_at (o := 1) rfl
      have r2 := HB2.out.cell_at (o := 2) rfl
      have hfz := HB2.out.thawed
      go_wp2_with fail
      try simp only [Exit.inBlock, Exit.then]
      have hB : Blk (((wr.setCell ⟨w.heap.size + 1, 0, none⟩ (.slice a3 es.length c3)).setCell ⟨w.heap.size + 1, 1, none⟩ (.int .i64 win)).setCell ⟨w.heap.size + 1, 2, none⟩ (.int .i64 cap)) (w.heap.size + 1) [.slice a3 es.length c3, .int .i64 win, .int .i64 cap] 67 := ((HB2.out.set 0 _).set 1 _).set 2 _
      have hF : Fr [w.heap.size + 1] wr (((wr.setCell ⟨w.heap.size + 1, 0, none⟩ (.slice a3 es.length c3)).setCell ⟨w.heap.size + 1, 1, none⟩ (.int .i64 win)).setCell ⟨w.heap.size + 1, 2, none⟩ (.int .i64 cap)) := (((Fr.refl _ _).set (.inl (by simp)) _).set (.inl (by simp)) _).set (.inl (by simp)) _
      refine ret_cell hB rfl rfl Try.underlying67 rfl (by kernel_rfl) rfl ?_
      have hV := View_low (HV.out.fr hF (fun g hg => by have := (HV.out.lt hg).1; simp; omega)) (show w.heap.size ≤ w.heap.size + 2 by omega)
      have hlen := HLK.out.1
      refine ⟨es', a3, c3, by rw [hlen], HLK.out, ?_, HF.out.trans hF (fun b hb => .inr (by simp at hb; omega))⟩
      rw [hlen]; exact hV
end Go.Proofs.Ytcnoaflojojfkab.Qry
