/- seqs.Merge on lists of stamps: the walk. No condition. -/
import Derived.Test.YtcnoaflojojfkabRising
import Derived.Test.YtcnoaflojojfkabMergeModel
namespace Go.Proofs.Ytcnoaflojojfkab.Stamp
open Go.RowKit
set_option linter.unusedVariables false
set_option linter.unusedSimpArgs false
set_option maxRecDepth 100000
theorem ht_one_off {P : Program} {ops : Array Oper} {Q : Exit → Act → World → Prop} {S : World → Prop} {i : Nat} {r : PT} {a : Act} {w : World} {o : Oper} (ho : ops[i]? = some o) (hw : Region.wanted o (yielded ops a.tmps) = false) (hS : S w)
    (k : wpHT P ops Q S r (a.put o.dst undef) w) : wpHT P ops Q S (.one i r) a w := by
  show wpOp P ops Q i _ a w
  unfold wpOp
  simp only [ho, hw]
  exact ⟨hS, k⟩
theorem op_append_view {P : Program} (w : World) {o : Oper} {a : Act} {K : Act → World → Prop} {Q : Exit → Act → World → Prop} (s x : Operand) (t : TypeId)
    (ho : o.op = .call { callee := .builtin .append, args := #[s, x], argTypes := #[t, t] })
    (B : Nat) (e : TypeId) (i : TypeInfo) (z : Value) (size bytes : Nat) (ht : P.underlying t = some (.slice e)) (hi : P.info? e = some i) (hz : i.zero = some z)
    (hsize : i.size = size) (hby : i.bytes = bytes) (hzs : z.cells.size = size)
    (sa : Option Addr) (sc n : Nat) (xs : List Value) (hs : a.eval s = .slice sa n sc) (hv : View w B e size (.slice sa n sc) n xs) (xv : Value) (m : Nat) (ys : List Value) (hxv : a.eval x = xv) (hx : Reads w size xv m ys) (h1 : ∀ u ∈ ys, u.oneCell' = true)
    (h63 : n + m ≤ maxLen) (hbytes : (n + m) * bytes ≤ 140737488355328) (hB : B ≤ w.heap.size)
    (h : ∀ a' c' w', View w' B e size (.slice a' (n + m) c') (n + m) (xs ++ ys) → w.grownBy w' (Value.slice sa n sc).ownBlock → ((Value.slice a' (n + m) c').ownBlock = (Value.slice sa n sc).ownBlock ∨ (Value.slice a' (n + m) c').ownBlock = some w.heap.size) → K (a.put o.dst (.slice a' (n + m) c')) w') : Oper.wp P o a w K Q := by
  obtain ⟨v', w', hr, h2, h3, h4⟩ := append_view (P := P) w B t o.type e i z size bytes ht hi hz hsize hby hzs hv hx h1 h63 hbytes hB
  obtain ⟨a', c', rfl⟩ := h2.form
  unfold Oper.wp execOp
  simp only [ho, resolve, invoke, builtin, Sem.run_bind, Sem.run_pure, Result.andThen_ok, List.map_toArray, List.map_cons, List.map_nil, hs, hxv, hr]
  exact h a' c' w' h2 h3 h4
theorem info_int : (Try.prog.info? 3).map (fun i => (i.zero, i.size, i.bytes)) = some (some (.int .i64 0), 1, 8) := by kernel_rfl
/-- lists of stamps, in a slice of slices -/
def Lists (W : World) (lb lo : Nat) (ls : List (List St)) : Prop := ∀ (j : Nat) (l : List St), ls[j]? = some l → ∃ aj cj, W.cell? ⟨lb, lo + j, none⟩ = some (.slice aj l.length cj) ∧ Reads W 3 (.slice aj l.length cj) l.length (l.flatMap St.cells)
theorem Lists.fr0 {W W' : World} {lb lo : Nat} {ls : List (List St)} (h : Lists W lb lo ls) (hf : Fr [] W W') : Lists W' lb lo ls := fun j l hl => by
  obtain ⟨aj, cj, h1, h2⟩ := h j l hl
  exact ⟨aj, cj, hf.cell h1 (by simp), h2.fr0 hf⟩
def nats (l : List Nat) : List Value := l.map fun (n : Nat) => Value.int .i64 (n : Int)
theorem View_low {w : World} {B B' : Nat} {e : TypeId} {size n : Nat} {v : Value} {xs : List Value} (h : View w B e size v n xs) (hB : B' ≤ B) : View w B' e size v n xs := by
  obtain ⟨hl, h | ⟨g, off, cap, cs, rfl, hb, r⟩⟩ := h
  · exact ⟨hl, .inl h⟩
  · exact ⟨hl, .inr ⟨g, off, cap, cs, rfl, by omega, r⟩⟩
def slen : Value → Nat
  | .slice _ n _ => n
  | _ => 0
theorem Blk.fr0 {w w1 : World} {b : Nat} {cs : List Value} {t : TypeId} (h : Blk w b cs t) (hf : Fr [] w w1) : Blk w1 b cs t := h.fr hf (by simp)
theorem rep_eq (ls : List (List St)) : List.replicate ls.length (Value.int .i64 0) = nats (ls.map fun _ => 0) := by
  induction ls with
  | nil => rfl
  | cons l ls ih => rw [List.length_cons, List.replicate_succ, ih]; rfl
/-- the cells of one list, its place, and its first stamp -/
theorem Lists.at_ {W : World} {lb lo : Nat} {ls : List (List St)} (h : Lists W lb lo ls) {j : Nat} {l : List St} {n : Nat} {x : St} (hl : ls[j]? = some l) (hx : l[n]? = some x) :
    ∃ b o c, W.cell? ⟨lb, lo + j, none⟩ = some (.slice (some ⟨b, o, none⟩) l.length c) ∧ W.cell? ⟨b, o + n * 3, none⟩ = some (.int .i64 x.t) ∧ W.cell? ⟨b, o + n * 3 + 1, none⟩ = some (.int .i64 x.s) ∧ W.cell? ⟨b, o + n * 3 + 2, none⟩ = some (.int .i64 x.a) := by
  obtain ⟨aj, cj, h1, h2⟩ := h j l hl
  obtain ⟨b, o, rfl⟩ := h2.rec_addr St.len (by omega) hx
  exact ⟨b, o, cj, h1, by have := h2.rec St.len hx (k := 0) rfl; simpa using this, h2.rec St.len hx rfl, h2.rec St.len hx rfl⟩

set_option maxHeartbeats 8000000 in
theorem merge_any (ls : List (List St)) (lb lo lc : Nat) (w : World) (hL : Lists w lb lo ls) (hs : ∀ l ∈ ls, Sorted l) (h12 : ∀ l ∈ ls, l.length ≤ 12) (h3 : ls.length ≤ 3) :
    Calls Try.prog 37 #[.slice (some ⟨lb, lo, none⟩) ls.length lc] w fun e w' => ∃ (m : List St) (a : Option Addr) (c : Nat), e = .returned (.slice a m.length c) ∧ Play ls m (ls.map List.length) ∧
      View w' w.heap.size 49 3 (.slice a m.length c) m.length (m.flatMap St.cells) ∧ Fr [] w w' := by
  obtain ⟨i0, hi0, hz0, hz1, hz2⟩ := info_parts info_stamp
  obtain ⟨j0, hj0, hy0, hy1, hy2⟩ := info_parts info_int
  have HL : Hid (∀ W, Fr [] w W → Lists W lb lo ls) := Lib.hid (fun W hW => hL.fr0 hW)
  have HS := Lib.hid hs
  have H12 := Lib.hid h12
  have HTOT : (ls.map List.length).sum ≤ 36 := by
    match ls, h3, h12 with
    | [], _, _ => simp
    | [x], _, h => have := h x (by simp); simp; omega
    | [x, y], _, h => have := h x (by simp); have := h y (by simp); simp; omega
    | [x, y, z], _, h => have := h x (by simp); have := h y (by simp); have := h z (by simp); simp; omega
  clear hL hs h12
  go_enter Try.func37, Try.ntmps37
  go_wp2_with (first | (at_make; refine wpList_make_blk _ rfl _ _ _ rfl 3 j0 (.int .i64 0) 1 8 Try.underlying33 hj0 hy0 hy1 hy2 .i64 .i64 _ _ ls.length rfl rfl rfl rfl (by omega) (by unfold maxLen; omega) ?_))
  have hmade : madeCells #[Value.int .i64 0] ls.length = (nats (ls.map fun _ => 0)).toArray := by
    apply Array.ext'
    rw [toList_madeCells_one]
    exact rep_eq ls
  rw [hmade]
  clear hmade
  have B0 : Hid (Blk (w.alloc (.cells (nats (ls.map fun _ => 0)).toArray 3)) w.heap.size (nats (ls.map fun _ => 0)) 3) := Lib.hid (Blk.new w _ _)
  go_loopw [4, 5, 6] (fun v4 v5 v6 wr => ∃ (out : List St) (ats : List Nat) (a : Option Addr) (c : Nat), v4 = .slice a out.length c ∧ MInv ls out ats ∧ Blk wr w.heap.size (nats ats) 3 ∧
    View wr (w.heap.size + 1) 49 3 (.slice a out.length c) out.length (out.flatMap St.cells) ∧ Fr [] w wr) (fun v4 _ _ _ => 37 - slen v4)
  case atStart => exact ⟨[], _, none, 0, rfl, MInv.nil ls, B0.out, View.nil _ _ _ _, (Fr.refl _ _).alloc _⟩
  case round =>
    obtain ⟨out, ats, a, c, rfl, hI, hB, hV, hF⟩ := hrel
    have HI := Lib.hid hI
    have HB := Lib.hid hB
    have HV := Lib.hid hV
    have HF := Lib.hid hF
    have hout : out.length ≤ 36 := by have := HI.out.play.total; omega
    clear hI hB hV hF B0
    obtain ⟨wo, rfl⟩ : ∃ W, W = wr := ⟨_, rfl⟩
    go_wp2_with fail
    go_loopw [5, 6, 12] (fun v5 v6 v12 wr => ∃ (k : Nat) (r : Int), v12 = .int .i64 k ∧ k ≤ ls.length ∧ v5 = .int .i64 r ∧ Best ls ats k r ∧ Fr [] wo wr) (fun _ _ v12 _ => ls.length - (intOf v12).toNat)
    case atStart => exact ⟨0, -1, rfl, Nat.zero_le _, rfl, Best.nil _ _, Fr.refl _ _⟩
    case round =>
      obtain ⟨k, r, rfl, hk, rfl, hBst, hf1⟩ := hrel
      have HBST := Lib.hid hBst
      have HF1 := Lib.hid hf1
      clear hBst hf1
      by_cases hkl : k < ls.length
      · obtain ⟨l, hl⟩ : ∃ l, ls[k]? = some l := ⟨_, List.getElem?_eq_getElem hkl⟩
        obtain ⟨n, hn⟩ : ∃ n, ats[k]? = some n := ⟨_, List.getElem?_eq_getElem (by rw [HI.out.play.len]; exact hkl)⟩
        have hcn : wr.cell? ⟨w.heap.size, k, none⟩ = some (.int .i64 (n : Int)) := (Blk.fr0 HB.out HF1.out).cell_at (by unfold nats; rw [List.getElem?_map, hn]; rfl)
        obtain ⟨aj, c1, hcl, _⟩ := HL.out wr (HF.out.trans0 HF1.out) k l hl
        have hkI : (k : Int) < (ls.length : Int) := by omega
        by_cases hnl : n < l.length
        · obtain ⟨x, hx⟩ : ∃ x, l[n]? = some x := ⟨_, List.getElem?_eq_getElem hnl⟩
          have HHD : Hid (Head ls ats k x) := Lib.hid ⟨l, n, hl, hn, hx⟩
          have hnI : (n : Int) < (l.length : Int) := by omega
          go_upto_region 7 with (fail)
          go_quiet (fail)
          obtain ⟨g, o, c1', hcl', hx0, hx1, hx2⟩ := (HL.out wr (HF.out.trans0 HF1.out)).at_ hl hx
          rw [hcl] at hcl'
          obtain ⟨rfl, rfl⟩ : aj = some ⟨g, o, none⟩ ∧ c1 = c1' := by simpa using hcl'
          have HFW := Lib.hid HF1.out
          rcases HBST.out.is with hr | ⟨b, xb, hr, hbk, hhb⟩
          · subst hr
            clear hcn hcl hx0 hx1 hx2 hl hn hx
            go_upto_region 8 with (fail)
            refine wp_region_tree_np (fun _ => True) (.on 0 (.on 1 (.on 2 (.on 3 (.on 4 (.on 5 (.on 6 (.on 7 (.on 8 (.on 9 (.on 10 (.on 11 (.on 12 (.on 13 (.on 14 (.on 15 (.on 16 (.on 17 (.on 18 (.on 19 (.on 20 (.on 21 (.on 22 (.on 23 (.one 24 (.on 25 .nil)))))))))))))))))))))))))) (by kernel_rfl) (by kernel_rfl) trivial ?_
            iterate 24 (first | (refine ht_on (o := ?_) (v := ?_) ?_ ?_ (fun w hSw => ?_) ?_; rotate_left 2; (focus ((simp only [List.getElem?_toArray, List.getElem?_cons_succ, List.getElem?_cons_zero]); (try rfl); done)); (focus (rfl)); (focus (((try obtain _ := hSw); (try dsimp only at hSw); go_simp; (try with_reducible rfl)); done)); simp only [Act.put, List.setIfInBounds_toArray, List.set_cons_zero, List.set_cons_succ]) | (refine ht_off_light (o := ?_) ?_ ?_ ?_; rotate_left 1; (focus ((simp only [List.getElem?_toArray, List.getElem?_cons_succ, List.getElem?_cons_zero]); (try rfl); done)); (focus (rfl)); simp only [Act.put, List.setIfInBounds_toArray, List.set_cons_zero, List.set_cons_succ]))
            refine ht_one_off (o := ?_) ?_ ?_ trivial ?_
            rotate_left 1
            (focus ((simp only [List.getElem?_toArray, List.getElem?_cons_succ, List.getElem?_cons_zero]); (try rfl); done))
            focus (rfl)
            simp only [Act.put, List.setIfInBounds_toArray, List.set_cons_zero, List.set_cons_succ]
            iterate 1 (first | (refine ht_on (o := ?_) (v := ?_) ?_ ?_ (fun w hSw => ?_) ?_; rotate_left 2; (focus ((simp only [List.getElem?_toArray, List.getElem?_cons_succ, List.getElem?_cons_zero]); (try rfl); done)); (focus (rfl)); (focus (((try obtain _ := hSw); (try dsimp only at hSw); go_simp; (try with_reducible rfl)); done)); simp only [Act.put, List.setIfInBounds_toArray, List.set_cons_zero, List.set_cons_succ]) | (refine ht_off_light (o := ?_) ?_ ?_ ?_; rotate_left 1; (focus ((simp only [List.getElem?_toArray, List.getElem?_cons_succ, List.getElem?_cons_zero]); (try rfl); done)); (focus (rfl)); simp only [Act.put, List.setIfInBounds_toArray, List.set_cons_zero, List.set_cons_succ]))
            refine ht_done_np ?_
            go_wp2_with fail
            go_roundw
            case rel => exact ⟨k + 1, (k : Int), by go_num, by omega, rfl, HBST.out.first HHD.out, (HF1.out.drewN _).drew⟩
            case measure => simp [intOf]; omega
          · subst hr
            obtain ⟨l2, nb, hlb, hnb, hxb⟩ := id hhb
            have HHB := Lib.hid hhb
            have hbn : wr.cell? ⟨w.heap.size, b, none⟩ = some (.int .i64 (nb : Int)) := (Blk.fr0 HB.out HF1.out).cell_at (by unfold nats; rw [List.getElem?_map, hnb]; rfl)
            obtain ⟨gb, ob, c2, hbl, hb0, hb1, hb2⟩ := (HL.out wr (HF.out.trans0 HF1.out)).at_ hlb hxb
            have hbI : (b : Int) < (ls.length : Int) := by omega
            have hbn0 : decide ((b : Int) < 0) = false := decide_eq_false (by omega)
            have hbn1 : ¬ ((b : Int) < 0) := by omega
            have hnbI : (nb : Int) < (l2.length : Int) := by have := (List.getElem?_eq_some_iff.1 hxb).1; omega
            clear hlb hnb hxb hhb hl hn hx
            go_upto_region 8 with (fail)
            refine wp_region_tree_np (fun W => W.cell? ⟨w.heap.size, k, none⟩ = some (.int .i64 (n : Int)) ∧ W.cell? ⟨lb, lo + k, none⟩ = some (.slice (some ⟨g, o, none⟩) l.length c1) ∧ W.cell? ⟨g, o + n * 3, none⟩ = some (.int .i64 x.t) ∧ W.cell? ⟨g, o + n * 3 + 1, none⟩ = some (.int .i64 x.s) ∧ W.cell? ⟨g, o + n * 3 + 2, none⟩ = some (.int .i64 x.a) ∧ W.cell? ⟨w.heap.size, b, none⟩ = some (.int .i64 (nb : Int)) ∧ W.cell? ⟨lb, lo + b, none⟩ = some (.slice (some ⟨gb, ob, none⟩) l2.length c2) ∧ W.cell? ⟨gb, ob + nb * 3, none⟩ = some (.int .i64 xb.t) ∧ W.cell? ⟨gb, ob + nb * 3 + 1, none⟩ = some (.int .i64 xb.s) ∧ W.cell? ⟨gb, ob + nb * 3 + 2, none⟩ = some (.int .i64 xb.a)) (.on 0 (.on 1 (.on 2 (.on 3 (.on 4 (.on 5 (.on 6 (.on 7 (.on 8 (.on 9 (.on 10 (.on 11 (.on 12 (.on 13 (.on 14 (.on 15 (.on 16 (.on 17 (.on 18 (.on 19 (.on 20 (.on 21 (.on 22 (.on 23 (.one 24 (.on 25 .nil)))))))))))))))))))))))))) (by kernel_rfl) (by kernel_rfl) ⟨hcn, hcl, hx0, hx1, hx2, hbn, hbl, hb0, hb1, hb2⟩ ?_
            iterate 24 (first | (refine ht_on (o := ?_) (v := ?_) ?_ ?_ (fun w hSw => ?_) ?_; rotate_left 2; (focus ((simp only [List.getElem?_toArray, List.getElem?_cons_succ, List.getElem?_cons_zero]); (try rfl); done)); (focus (rfl)); (focus (((try obtain ⟨s0, s1, s2, s3, s4, s5, s6, s7, s8, s9⟩ := hSw); (try dsimp only at hSw); go_simp; (try with_reducible rfl)); done)); simp only [Act.put, List.setIfInBounds_toArray, List.set_cons_zero, List.set_cons_succ]) | (refine ht_off_light (o := ?_) ?_ ?_ ?_; rotate_left 1; (focus ((simp only [List.getElem?_toArray, List.getElem?_cons_succ, List.getElem?_cons_zero]); (try rfl); done)); (focus (rfl)); simp only [Act.put, List.setIfInBounds_toArray, List.set_cons_zero, List.set_cons_succ]))
            refine ht_one (o := ?_) ?_ ?_ (fun K hK => ?_)
            rotate_left 1
            (focus ((simp only [List.getElem?_toArray, List.getElem?_cons_succ, List.getElem?_cons_zero]); (try rfl); done))
            focus (rfl)
            go_simp
            refine (less_any x xb _).mono ?_
            rintro e w2 ⟨rfl, hf⟩
            have F2 : Hid (Fr [] wo w2) := Lib.hid ((HF1.out.drewN _).trans0 hf)
            refine hK.out _ _ ⟨hf.cell (by exact hcn) (by simp), hf.cell (by exact hcl) (by simp), hf.cell (by exact hx0) (by simp), hf.cell (by exact hx1) (by simp), hf.cell (by exact hx2) (by simp), hf.cell (by exact hbn) (by simp), hf.cell (by exact hbl) (by simp), hf.cell (by exact hb0) (by simp), hf.cell (by exact hb1) (by simp), hf.cell (by exact hb2) (by simp)⟩ (fun _ => ?_)
            try simp only [Act.put, List.setIfInBounds_toArray, List.set_cons_zero, List.set_cons_succ]
            iterate 1 (first | (refine ht_on (o := ?_) (v := ?_) ?_ ?_ (fun w hSw => ?_) ?_; rotate_left 2; (focus ((simp only [List.getElem?_toArray, List.getElem?_cons_succ, List.getElem?_cons_zero]); (try rfl); done)); (focus (rfl)); (focus (((try obtain ⟨s0, s1, s2, s3, s4, s5, s6, s7, s8, s9⟩ := hSw); (try dsimp only at hSw); go_simp; (try with_reducible rfl)); done)); simp only [Act.put, List.setIfInBounds_toArray, List.set_cons_zero, List.set_cons_succ]) | (refine ht_off_light (o := ?_) ?_ ?_ ?_; rotate_left 1; (focus ((simp only [List.getElem?_toArray, List.getElem?_cons_succ, List.getElem?_cons_zero]); (try rfl); done)); (focus (rfl)); simp only [Act.put, List.setIfInBounds_toArray, List.set_cons_zero, List.set_cons_succ]))
            refine ht_done_np ?_
            clear hf
            cases hs : sless x xb with
            | true =>
              go_wp2_with fail
              go_roundw
              case rel => exact ⟨k + 1, (k : Int), by go_num, by omega, rfl, HBST.out.less HHB.out HHD.out hs, F2.out⟩
              case measure => simp [intOf]; omega
            | false =>
              go_wp2_with fail
              go_roundw
              case rel => exact ⟨k + 1, (b : Int), by go_num, by omega, rfl, HBST.out.keep HHB.out HHD.out hs, F2.out⟩
              case measure => simp [intOf]; omega
        · have HHD : Hid (∀ z, ¬ Head ls ats k z) := Lib.hid (fun z ⟨l', m, k1, k2, k3⟩ => by
            rw [hl] at k1; rw [hn] at k2
            obtain rfl : l = l' := by simpa using k1
            obtain rfl : n = m := by simpa using k2
            exact hnl (List.getElem?_eq_some_iff.1 k3).1)
          clear hl hn
          go_upto_region 7 with (fail)
          go_quiet (fail)
          go_wp2_with fail
          go_roundw
          case rel => exact ⟨k + 1, r, by go_num, by omega, rfl, HBST.out.skip HHD.out, HF1.out.drewN _⟩
          case measure => simp [intOf]; omega
      · obtain rfl : k = ls.length := by omega
        have HFX := Lib.hid (HF.out.trans0 HF1.out)
        have HBX := Lib.hid (Blk.fr0 HB.out HF1.out)
        have HVX := Lib.hid (HV.out.fr0 HF1.out)
        rcases HBST.out.is with hr | ⟨b, xb, hr, hbk, hhb⟩
        · subst hr
          have HE : Hid (ats = ls.map List.length) := Lib.hid (HI.out.play.all (fun j z hh => by
            rcases HBST.out with ⟨_, h2⟩ | ⟨b, x, h1, _⟩
            · obtain ⟨l, m, k1, k2, k3⟩ := id hh
              exact h2 j z (List.getElem?_eq_some_iff.1 k1).1 hh
            · omega))
          go_wp2_with fail
          go_ret
          exact ⟨out, a, c, rfl, by rw [← HE.out]; exact HI.out.play, View_low HVX.out (by omega), HFX.out⟩
        · subst hr
          obtain ⟨l2, nb, hlb, hnb, hxb⟩ := id hhb
          have HBB : Hid (∀ j z, Head ls ats j z → sless z xb = false) := Lib.hid (fun j z hh => by
            rcases HBST.out with ⟨h1, _⟩ | ⟨b', x', h1, _, h3, h4⟩
            · omega
            · obtain rfl : b = b' := by omega
              obtain rfl := head_eq hhb h3
              obtain ⟨l, m, k1, k2, k3⟩ := id hh
              exact h4 j z (List.getElem?_eq_some_iff.1 k1).1 hh)
          have hbn : wr.cell? ⟨w.heap.size, b, none⟩ = some (.int .i64 (nb : Int)) := HBX.out.cell_at (by unfold nats; rw [List.getElem?_map, hnb]; rfl)
          obtain ⟨gb, ob, c2, kbl, kb0, kb1, kb2⟩ := (HL.out w (Fr.refl _ _)).at_ hlb hxb
          have KB := Lib.hid (And.intro kbl (And.intro kb0 (And.intro kb1 kb2)))
          have hbl := HFX.out.cell kbl (by simp)
          have hb0 := HFX.out.cell kb0 (by simp)
          have hb1 := HFX.out.cell kb1 (by simp)
          have hb2 := HFX.out.cell kb2 (by simp)
          have hbI : (b : Int) < (ls.length : Int) := by omega
          have hbn1 : ¬ ((b : Int) < 0) := by omega
          have hnbI : (nb : Int) < (l2.length : Int) := by have := (List.getElem?_eq_some_iff.1 hxb).1; omega
          have hnb12 : nb < 12 := by
            have h1 := (List.getElem?_eq_some_iff.1 hxb).1
            have h2 := H12.out l2 (List.mem_of_getElem? hlb)
            omega
          have HLB := Lib.hid hlb
          have HNB := Lib.hid hnb
          have HXB := Lib.hid hxb
          clear hlb hnb hxb hhb kbl kb0 kb1 kb2
          go_upto_region 13 with (fail)
          refine wp_region_tree_np (fun W => W.cell? ⟨w.heap.size, b, none⟩ = some (.int .i64 (nb : Int)) ∧ W.cell? ⟨lb, lo + b, none⟩ = some (.slice (some ⟨gb, ob, none⟩) l2.length c2) ∧ W.cell? ⟨gb, ob + nb * 3, none⟩ = some (.int .i64 xb.t) ∧ W.cell? ⟨gb, ob + nb * 3 + 1, none⟩ = some (.int .i64 xb.s) ∧ W.cell? ⟨gb, ob + nb * 3 + 2, none⟩ = some (.int .i64 xb.a)) (.on 0 (.on 1 (.on 2 (.on 3 (.on 4 (.on 5 (.on 6 (.on 7 (.on 8 (.on 9 (.on 10 (.one 11 (.one 12 (.on 13 .nil)))))))))))))) (by kernel_rfl) (by kernel_rfl) ⟨hbn, hbl, hb0, hb1, hb2⟩ ?_
          iterate 11 (first | (refine ht_on (o := ?_) (v := ?_) ?_ ?_ (fun w hSw => ?_) ?_; rotate_left 2; (focus ((simp only [List.getElem?_toArray, List.getElem?_cons_succ, List.getElem?_cons_zero]); (try rfl); done)); (focus (rfl)); (focus (((try obtain ⟨s0, s1, s2, s3, s4⟩ := hSw); (try dsimp only at hSw); go_simp; (try with_reducible rfl)); done)); simp only [Act.put, List.setIfInBounds_toArray, List.set_cons_zero, List.set_cons_succ]) | (refine ht_off_light (o := ?_) ?_ ?_ ?_; rotate_left 1; (focus ((simp only [List.getElem?_toArray, List.getElem?_cons_succ, List.getElem?_cons_zero]); (try rfl); done)); (focus (rfl)); simp only [Act.put, List.setIfInBounds_toArray, List.set_cons_zero, List.set_cons_succ]))
          refine ht_one (o := ?_) ?_ ?_ (fun K hK => ?_)
          rotate_left 1
          (focus ((simp only [List.getElem?_toArray, List.getElem?_cons_succ, List.getElem?_cons_zero]); (try rfl); done))
          focus (rfl)
          go_simp
          refine hK.out _ _ ⟨((Fr.refl [] wr).drew.alloc _).cell hbn (by simp), ((Fr.refl [] wr).drew.alloc _).cell hbl (by simp), ((Fr.refl [] wr).drew.alloc _).cell hb0 (by simp), ((Fr.refl [] wr).drew.alloc _).cell hb1 (by simp), ((Fr.refl [] wr).drew.alloc _).cell hb2 (by simp)⟩ (fun _ => ?_)
          try simp only [Act.put, List.setIfInBounds_toArray, List.set_cons_zero, List.set_cons_succ]
          refine ht_one (o := ?_) ?_ ?_ (fun K hK => ?_)
          rotate_left 1
          (focus ((simp only [List.getElem?_toArray, List.getElem?_cons_succ, List.getElem?_cons_zero]); (try rfl); done))
          focus (rfl)
          refine op_append_view _ (.tmp 56) (.tmp 67) 45 rfl (w.heap.size + 1) 49 i0 (.agg #[.int .i64 0, .int .i64 0, .int .i64 0]) 3 24 Try.underlying45 hi0 hz0 hz1 hz2 rfl _ _ out.length _ rfl (HVX.out.fr0 ((Fr.refl _ _).drew.alloc _)) _ 1 [.int .i64 xb.t, .int .i64 xb.s, .int .i64 xb.a] rfl (reads_three _ _ _ _ _) (by simp [Value.oneCell']) (by unfold maxLen; omega) (by omega) (by have := HFX.out.size; have := HBX.out.lt; simp; omega) ?_
          intro a' c' w3 hv' hg' hat'
          have HV' := Lib.hid hv'
          have HG' := Lib.hid hg'
          clear hv' hg' hat'
          have HB3 : Hid (Blk w3 w.heap.size (nats ats) 3) := Lib.hid ((Blk.fr0 HBX.out ((Fr.refl _ _).drew.alloc _)).fr (Fr.of_grown HG'.out) (fun hm => by have := (HVX.out.lt (Option.mem_toList.1 hm)).1; omega))
          have F3 : Hid (Fr [] w w3) := Lib.hid (((HFX.out.drew).alloc _).grown HG'.out (fun j hj => .inr (by have := (HVX.out.lt hj).1; omega)))
          refine hK.out _ _ ⟨HB3.out.cell_at (by unfold nats; rw [List.getElem?_map, HNB.out]; rfl), F3.out.cell KB.out.1 (by simp), F3.out.cell KB.out.2.1 (by simp), F3.out.cell KB.out.2.2.1 (by simp), F3.out.cell KB.out.2.2.2 (by simp)⟩ (fun _ => ?_)
          try simp only [Act.put, List.setIfInBounds_toArray, List.set_cons_zero, List.set_cons_succ]
          iterate 1 (first | (refine ht_on (o := ?_) (v := ?_) ?_ ?_ (fun w hSw => ?_) ?_; rotate_left 2; (focus ((simp only [List.getElem?_toArray, List.getElem?_cons_succ, List.getElem?_cons_zero]); (try rfl); done)); (focus (rfl)); (focus (((try obtain ⟨s0, s1, s2, s3, s4⟩ := hSw); (try dsimp only at hSw); go_simp; (try with_reducible rfl)); done)); simp only [Act.put, List.setIfInBounds_toArray, List.set_cons_zero, List.set_cons_succ]) | (refine ht_off_light (o := ?_) ?_ ?_ ?_; rotate_left 1; (focus ((simp only [List.getElem?_toArray, List.getElem?_cons_succ, List.getElem?_cons_zero]); (try rfl); done)); (focus (rfl)); simp only [Act.put, List.setIfInBounds_toArray, List.set_cons_zero, List.set_cons_succ]))
          refine ht_done_np ?_
          have hb3 : w3.cell? ⟨w.heap.size, b, none⟩ = some (.int .i64 (nb : Int)) := HB3.out.cell_at (by unfold nats; rw [List.getElem?_map, HNB.out]; rfl)
          have hfz3 := HB3.out.thawed
          clear hbn hbl hb0 hb1 hb2
          go_wp2_with fail
          go_roundw
          case rel =>
            refine ⟨out ++ [xb], ats.set b (nb + 1), a', c', by rw [List.length_append]; rfl, HI.out.step HS.out HLB.out HNB.out HXB.out HBB.out, ?_, ?_, F3.out.set (.inr (Nat.le_refl _)) _⟩
            · have := HB3.out.set b (.int .i64 ((nb : Int) + 1))
              unfold nats at this ⊢
              rw [List.map_set]
              exact this
            · rw [List.length_append, List.flatMap_append]
              exact HV'.out.fr ((Fr.refl [w.heap.size] w3).set (.inl (by simp)) _) (fun g hg => by have := (HV'.out.lt hg).1; simp; omega)
          case measure => simp [slen]; omega
theorem merge_nil (w : World) : Calls Try.prog 37 #[.slice none 0 0] w fun e w' => e = .returned (.slice none 0 0) ∧ Fr [] w w' := by
  obtain ⟨j0, hj0, hy0, hy1, hy2⟩ := info_parts info_int
  go_enter Try.func37, Try.ntmps37
  go_wp2_with (first | (at_make; refine wpList_make_blk _ rfl _ _ _ rfl 3 j0 (.int .i64 0) 1 8 Try.underlying33 hj0 hy0 hy1 hy2 .i64 .i64 _ _ 0 rfl rfl rfl rfl (by omega) (by unfold maxLen; omega) ?_))
  refine wp_loop_rounds 1 ?_
  rw [rounds_succ]
  go_wp2_with fail
  refine wp_loop_rounds 1 ?_
  rw [rounds_succ]
  go_wp2_with fail
  go_ret
  exact ⟨rfl, (Fr.refl _ _).alloc _⟩
end Go.Proofs.Ytcnoaflojojfkab.Stamp
