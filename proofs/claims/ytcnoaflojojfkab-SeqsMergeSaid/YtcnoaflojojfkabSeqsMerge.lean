/- SeqsMerge: lists that rise are one that does: the walk of the law. No condition. -/
import Derived.Test.YtcnoaflojojfkabMerge
import Derived.Test.YtcnoaflojojfkabSeqsNil
namespace Go.Proofs.Ytcnoaflojojfkab.SeqsMerge
open Go.RowKit Go.Proofs.Ytcnoaflojojfkab.Stamp
set_option linter.unusedVariables false
set_option linter.unusedSimpArgs false
set_option maxRecDepth 100000

theorem Up.sorted {a : Int} {l : List St} (h : Up a l) : Sorted l := fun i x y hx hy => by
  have h1 := h.mono i x y hx hy
  have h2 := h.each x (List.mem_of_getElem? hx)
  have h3 := h.each y (List.mem_of_getElem? hy)
  rw [sless_not]; omega
theorem three_get {α : Type} {x y z l : α} {b : Nat} (h : [x, y, z][b]? = some l) : (b = 0 ∧ l = x) ∨ (b = 1 ∧ l = y) ∨ (b = 2 ∧ l = z) := by
  match b, h with
  | 0, h => left; exact ⟨rfl, by simpa using h.symm⟩
  | 1, h => right; left; exact ⟨rfl, by simpa using h.symm⟩
  | 2, h => right; right; exact ⟨rfl, by simpa using h.symm⟩
  | b + 3, h => simp at h
/-- three slices in a block are three lists -/
theorem lists_of {w W : World} {lb : Nat} {x y z : List St} {ax ay az : Option Addr} {cx cy cz : Nat} {t : TypeId} (hb : Blk W lb [.slice ax x.length cx, .slice ay y.length cy, .slice az z.length cz] t)
    (hx : Reads W 3 (.slice ax x.length cx) x.length (x.flatMap St.cells)) (hy : Reads W 3 (.slice ay y.length cy) y.length (y.flatMap St.cells)) (hz : Reads W 3 (.slice az z.length cz) z.length (z.flatMap St.cells)) : Lists W lb 0 [x, y, z] := by
  intro j l hl
  rcases three_get hl with ⟨rfl, rfl⟩ | ⟨rfl, rfl⟩ | ⟨rfl, rfl⟩
  · exact ⟨_, _, hb.cell_at rfl, hx⟩
  · exact ⟨_, _, hb.cell_at rfl, hy⟩
  · exact ⟨_, _, hb.cell_at rfl, hz⟩

set_option maxHeartbeats 8000000 in
theorem walk (za : List Int) (va : Value) {w : World} (hra : Reads w 1 va za.length (za.map (Value.int .i64))) (_wa : ∀ x ∈ za, (Lit.int .i64 x).wf = true) (hla : za.length * 8 ≤ 140737488351232)
    (zb : List Int) (vb : Value) (hrb : Reads w 1 vb zb.length (zb.map (Value.int .i64))) (_wb : ∀ x ∈ zb, (Lit.int .i64 x).wf = true) (hlb : zb.length * 8 ≤ 140737488351232)
    (zc : List Int) (vc : Value) (hrc : Reads w 1 vc zc.length (zc.map (Value.int .i64))) (_wc : ∀ x ∈ zc, (Lit.int .i64 x).wf = true) (hlc : zc.length * 8 ≤ 140737488351232) :
    Calls Try.prog 8 #[va, vb, vc] w fun e w' => e = .returned (.bool true) ∧ Fr [] w w' := by
  obtain ⟨aa, ca, rfl⟩ : ∃ a c, va = .slice a za.length c := by obtain ⟨_, a, c, h, _⟩ := hra; exact ⟨a, c, h⟩
  obtain ⟨ab, cb, rfl⟩ : ∃ a c, vb = .slice a zb.length c := by obtain ⟨_, a, c, h, _⟩ := hrb; exact ⟨a, c, h⟩
  obtain ⟨ac, cc, rfl⟩ : ∃ a c, vc = .slice a zc.length c := by obtain ⟨_, a, c, h, _⟩ := hrc; exact ⟨a, c, h⟩
  have HA : Hid (∀ W, Fr [] w W → Reads W 1 (.slice aa za.length ca) za.length (za.map (Value.int .i64))) := Lib.hid (fun W hW => hra.fr0 hW)
  have HB : Hid (∀ W, Fr [] w W → Reads W 1 (.slice ab zb.length cb) zb.length (zb.map (Value.int .i64))) := Lib.hid (fun W hW => hrb.fr0 hW)
  have HC : Hid (∀ W, Fr [] w W → Reads W 1 (.slice ac zc.length cc) zc.length (zc.map (Value.int .i64))) := Lib.hid (fun W hW => hrc.fr0 hW)
  clear hra hrb hrc _wa _wb _wc
  go_enter Try.func8, Try.ntmps8
  go_wp2_with fail
  refine (Seqs.awake_any w).mono ?_
  rintro e w1 ⟨rfl, hf⟩
  have F1 := Lib.hid hf
  clear hf
  go_wp2_with fail
  refine (rising_any za aa ca 0 w1 (HA.out _ F1.out) hla).mono ?_
  rintro e w2 ⟨x, ax, cx, rfl, hU, hV, hf⟩
  have UX := Lib.hid hU
  have VX := Lib.hid hV.reads
  have F2 := Lib.hid (F1.out.trans0 hf)
  clear hU hV hf
  go_wp2_with fail
  refine (rising_any zb ab cb 1 w2 (HB.out _ F2.out) hlb).mono ?_
  rintro e w3 ⟨y, ay, cy, rfl, hU, hV, hf⟩
  have UY := Lib.hid hU
  have VY := Lib.hid hV.reads
  have VX3 := Lib.hid (VX.out.fr0 hf)
  have F3 := Lib.hid (F2.out.trans0 hf)
  clear hU hV hf VX
  go_wp2_with fail
  refine (rising_any zc ac cc 2 w3 (HC.out _ F3.out) hlc).mono ?_
  rintro e w4 ⟨z, az, cz, rfl, hU, hV, hf⟩
  have UZ := Lib.hid hU
  have VZ4 := Lib.hid hV.reads
  have VX4 := Lib.hid (VX3.out.fr0 hf)
  have VY4 := Lib.hid (VY.out.fr0 hf)
  have F4 := Lib.hid (F3.out.trans0 hf)
  clear hU hV hf VX3 VY
  have HSO : Hid (∀ l ∈ [x, y, z], Sorted l) := Lib.hid (fun l hl => by
    simp only [List.mem_cons, List.not_mem_nil, or_false] at hl
    rcases hl with rfl | rfl | rfl
    · exact Up.sorted UX.out
    · exact Up.sorted UY.out
    · exact Up.sorted UZ.out)
  have H12 : Hid (∀ l ∈ [x, y, z], l.length ≤ 12) := Lib.hid (fun l hl => by
    simp only [List.mem_cons, List.not_mem_nil, or_false] at hl
    rcases hl with rfl | rfl | rfl
    · exact UX.out.len
    · exact UY.out.len
    · exact UZ.out.len)
  have HU : Hid (∀ (b : Nat) (l : List St) (u : St), [x, y, z][b]? = some l → u ∈ l → u.a = (b : Int)) := Lib.hid (fun b l u hl hu => by
    rcases three_get hl with ⟨rfl, rfl⟩ | ⟨rfl, rfl⟩ | ⟨rfl, rfl⟩
    · exact (UX.out.each u hu).2
    · exact (UY.out.each u hu).2
    · exact (UZ.out.each u hu).2)
  have H0 : Hid (∀ (b : Nat) (l : List St) (u : St), [x, y, z][b]? = some l → u ∈ l → u.s = 0) := Lib.hid (fun b l u hl hu => by
    rcases three_get hl with ⟨rfl, rfl⟩ | ⟨rfl, rfl⟩ | ⟨rfl, rfl⟩
    · exact (UX.out.each u hu).1
    · exact (UY.out.each u hu).1
    · exact (UZ.out.each u hu).1)
  have hx12 : x.length ≤ 12 := UX.out.len
  have hy12 : y.length ≤ 12 := UY.out.len
  have hz12 : z.length ≤ 12 := UZ.out.len
  clear UX UY UZ HA HB HC F1 F2 F3
  go_wp2_with fail
  have hb5 := Blk.new w4 [.slice ax x.length cx, .slice ay y.length cy, .slice az z.length cz] 45
  have hf5 : Fr [] w4 (w4.alloc (.cells [.slice ax x.length cx, .slice ay y.length cy, .slice az z.length cz].toArray 45)) := (Fr.refl _ _).alloc _
  refine (merge_any [x, y, z] w4.heap.size 0 3 _ (lists_of (w := w) hb5 (VX4.out.fr0 hf5) (VY4.out.fr0 hf5) (VZ4.out.fr0 hf5)) HSO.out H12.out (by simp)).mono ?_
  rintro e w6 ⟨m, am, cm, rfl, hP, hV, hf⟩
  have HP := Lib.hid hP
  have VM6 := Lib.hid hV.reads
  have VX6 := Lib.hid ((VX4.out.fr0 hf5).fr0 hf)
  have VY6 := Lib.hid ((VY4.out.fr0 hf5).fr0 hf)
  have VZ6 := Lib.hid ((VZ4.out.fr0 hf5).fr0 hf)
  have F6 := Lib.hid ((F4.out.trans0 hf5).trans0 hf)
  have HLEN : m.length = x.length + y.length + z.length := by
    have h1 := hP.sum
    simp at h1; omega
  clear hP hV hf hb5 hf5 VX4 VY4 VZ4 F4
  have hq1 : ((m.length : Int) == (x.length : Int) + (y.length : Int) + (z.length : Int)) = true := by rw [HLEN]; simp
  have hq2 : ((m.length : Int) != (x.length : Int) + (y.length : Int) + (z.length : Int)) = false := by rw [HLEN]; simp
  have hm36 : m.length ≤ 36 := by omega
  clear HLEN
  go_wp2_with fail
  have HW : Hid (∀ W, W = (w6.alloc (.cells #[.int .i64 0, .int .i64 0, .int .i64 0] 50)).alloc (.cells #[.slice ax x.length cx, .slice ay y.length cy, .slice az z.length cz] 45) →
      Blk W w6.heap.size (nats [0, 0, 0]) 50 ∧ Blk W (w6.heap.size + 1) [.slice ax x.length cx, .slice ay y.length cy, .slice az z.length cz] 45 ∧ Fr [] w6 W) := Lib.hid (by
    rintro W rfl
    exact new2 w6 [.int .i64 0, .int .i64 0, .int .i64 0] 50 [.slice ax x.length cx, .slice ay y.length cy, .slice az z.length cz] 45)
  obtain ⟨hB1, hB2, hf7⟩ := HW.out _ rfl
  refine (rises_any m am cm _ (VM6.out.fr0 hf7) (by omega)).mono ?_
  rintro e w8 ⟨rfl, hf⟩
  rw [risesM_of HP.out.rises]
  have B1 := Lib.hid (Blk.fr0 hB1 hf)
  have B2 := Lib.hid (Blk.fr0 hB2 hf)
  have F8 := Lib.hid (hf7.trans0 hf)
  clear hB1 hB2 hf7 hf HW
  go_wp2_with fail
  go_loopw [13, 14] (fun v13 v14 wr => ∃ (i : Nat) (ats : List Nat), v13 = .int .i64 i ∧ i ≤ m.length ∧ Play [x, y, z] (m.take i) ats ∧ Blk wr w6.heap.size (nats ats) 50 ∧
    Blk wr (w6.heap.size + 1) [.slice ax x.length cx, .slice ay y.length cy, .slice az z.length cz] 45 ∧ Fr [] w6 wr) (fun v13 _ _ => m.length - (intOf v13).toNat)
  case atStart => exact ⟨0, [0, 0, 0], rfl, Nat.zero_le _, Play.nil, B1.out, B2.out, F8.out⟩
  case round =>
    obtain ⟨i, ats, rfl, hi, hPl, hB1, hB2, hF⟩ := hrel
    have HPL := Lib.hid hPl
    have HB1 := Lib.hid hB1
    have HB2 := Lib.hid hB2
    have HF := Lib.hid hF
    clear hPl hB1 hB2 hF B1 B2 F8
    by_cases him : i < m.length
    · obtain ⟨ats', b, n, l, u, k1, k2, k3, k4, k5, k6⟩ := HP.out.at_ i him
      obtain rfl := play_det HU.out k1 HPL.out
      have hua : u.a = (b : Int) := HU.out b l u k3 (List.mem_of_getElem? k5)
      have hus : u.s = 0 := H0.out b l u k3 (List.mem_of_getElem? k5)
      have hb3 : b < 3 := by rcases three_get k3 with ⟨h, _⟩ | ⟨h, _⟩ | ⟨h, _⟩ <;> omega
      have hnl : n < l.length := (List.getElem?_eq_some_iff.1 k5).1
      have hn12 : l.length ≤ 12 := H12.out l (List.mem_of_getElem? k3)
      have HST : Hid (Play [x, y, z] (m.take (i + 1)) (ats'.set b (n + 1))) := k6
      have hat : wr.cell? ⟨w6.heap.size, b, none⟩ = some (.int .i64 (n : Int)) := HB1.out.cell_at (by unfold nats; rw [List.getElem?_map, k4]; rfl)
      have hfz := HB1.out.thawed
      obtain ⟨g, o, c1, hls0, hl0, hl1, hl2'⟩ := (lists_of (w := w) HB2.out (VX6.out.fr0 HF.out) (VY6.out.fr0 HF.out) (VZ6.out.fr0 HF.out)).at_ k3 k5
      have hls : wr.cell? ⟨w6.heap.size + 1, b, none⟩ = some (.slice (some ⟨g, o, none⟩) l.length c1) := by simpa using hls0
      have hl2 : wr.cell? ⟨g, o + n * 3 + 2, none⟩ = some (.int .i64 (b : Int)) := by rw [← hua]; exact hl2'
      obtain ⟨gm, om, rfl⟩ := VM6.out.rec_addr St.len (by omega) k2
      have hu0 : wr.cell? ⟨gm, om + i * 3, none⟩ = some (.int .i64 u.t) := by have := (VM6.out.fr0 HF.out).rec St.len k2 (k := 0) rfl; simpa using this
      have hu1 : wr.cell? ⟨gm, om + i * 3 + 1, none⟩ = some (.int .i64 u.s) := (VM6.out.fr0 HF.out).rec St.len k2 rfl
      have hu2 : wr.cell? ⟨gm, om + i * 3 + 2, none⟩ = some (.int .i64 (b : Int)) := by rw [← hua]; exact (VM6.out.fr0 HF.out).rec St.len k2 rfl
      have hbI : (b : Int) < 3 := by omega
      have hb0 : ¬ ((b : Int) < 0) := by omega
      have hb2 : ¬ (2 < (b : Int)) := by omega
      have hb0' : decide ((b : Int) < 0) = false := decide_eq_false hb0
      have hb2' : decide (2 < (b : Int)) = false := decide_eq_false hb2
      have hnI : (n : Int) < (l.length : Int) := by omega
      have hnI' : ¬ ((l.length : Int) ≤ (n : Int)) := by omega
      have hnI2 : decide ((l.length : Int) ≤ (n : Int)) = false := decide_eq_false hnI'
      have hiI : (i : Int) < (m.length : Int) := by omega
      have KK := Lib.hid (And.intro k2 (And.intro hua hus))
      clear k1 k2 k3 k4 k5 k6 hls0 hl2' hua hus
      cases i with
      | zero =>
        rw [Nat.zero_mul, Nat.add_zero] at hu0 hu1 hu2
        go_upto_region 13 with (fail)
        simp only [List.append_eq, List.cons_append, List.nil_append]
        refine wp_region_tree_np (fun W => W.cell? ⟨w6.heap.size, b, none⟩ = some (.int .i64 (n : Int)) ∧ W.cell? ⟨w6.heap.size + 1, b, none⟩ = some (.slice (some ⟨g, o, none⟩) l.length c1) ∧ W.cell? ⟨g, o + n * 3, none⟩ = some (.int .i64 u.t) ∧ W.cell? ⟨g, o + n * 3 + 1, none⟩ = some (.int .i64 u.s) ∧ W.cell? ⟨g, o + n * 3 + 2, none⟩ = some (.int .i64 (b : Int)) ∧ W.cell? ⟨gm, om, none⟩ = some (.int .i64 u.t) ∧ W.cell? ⟨gm, om + 1, none⟩ = some (.int .i64 u.s) ∧ W.cell? ⟨gm, om + 2, none⟩ = some (.int .i64 (b : Int))) (.on 0 (.on 1 (.on 2 (.on 3 (.on 4 (.on 5 (.on 6 (.on 7 (.on 8 (.on 9 (.on 10 (.on 11 (.on 12 (.on 13 (.on 14 (.on 15 (.on 16 (.on 17 (.on 18 (.on 19 (.on 20 (.on 21 (.on 22 (.on 23 (.on 24 (.on 25 (.on 26 (.on 27 (.on 28 (.on 29 (.on 30 (.on 31 (.on 32 (.on 33 (.on 34 (.on 35 (.on 36 (.on 37 (.on 38 (.on 39 (.on 40 (.on 41 (.on 42 (.on 43 (.on 44 (.on 45 (.on 46 (.on 47 (.on 48 (.on 49 (.on 50 (.on 51 (.on 52 (.on 53 (.on 54 (.on 55 (.on 56 (.on 57 (.on 58 (.on 59 (.on 60 (.on 61 (.on 62 (.on 63 (.on 64 (.on 65 (.on 66 (.on 67 (.on 68 (.on 69 (.on 70 (.on 71 (.on 72 (.on 73 (.on 74 .nil))))))))))))))))))))))))))))))))))))))))))))))))))))))))))))))))))))))))))) (by kernel_rfl) (by kernel_rfl) ⟨hat, hls, hl0, hl1, hl2, hu0, hu1, hu2⟩ ?_
        iterate 75 (first | (refine ht_on (o := ?_) (v := ?_) ?_ ?_ (fun w hSw => ?_) ?_; rotate_left 2; (focus ((simp only [List.getElem?_toArray, List.getElem?_cons_succ, List.getElem?_cons_zero]); (try rfl); done)); (focus (rfl)); (focus (((try obtain ⟨s0, s1, s2, s3, s4, s5, s6, s7⟩ := hSw); (try dsimp only at hSw); go_simp; (try with_reducible rfl)); done)); simp only [Act.put, List.setIfInBounds_toArray, List.set_cons_zero, List.set_cons_succ]) | (refine ht_off_light (o := ?_) ?_ ?_ ?_; rotate_left 1; (focus ((simp only [List.getElem?_toArray, List.getElem?_cons_succ, List.getElem?_cons_zero]); (try rfl); done)); (focus (rfl)); simp only [Act.put, List.setIfInBounds_toArray, List.set_cons_zero, List.set_cons_succ]))
        refine ht_done_np ?_
        go_wp2_with fail
        refine ⟨⟨1, ats'.set b (n + 1), rfl, by omega, HST.out, ?_, (HB2.out.set_ne (by simp) _).drew, (HF.out.set (.inr (Nat.le_refl _)) _).drew⟩, ?_⟩
        · have h := (HB1.out.set b (.int .i64 ((n : Int) + 1))).drew
          unfold nats at h ⊢
          rw [List.map_set]
          exact h
        · simp [intOf]; omega
      | succ j =>
        obtain ⟨p, hp⟩ : ∃ p, m[j]? = some p := ⟨_, List.getElem?_eq_getElem (by omega)⟩
        have hp0 : wr.cell? ⟨gm, om + j * 3, none⟩ = some (.int .i64 p.t) := by have := (VM6.out.fr0 HF.out).rec St.len hp (k := 0) rfl; simpa using this
        have hp1 : wr.cell? ⟨gm, om + j * 3 + 1, none⟩ = some (.int .i64 p.s) := (VM6.out.fr0 HF.out).rec St.len hp rfl
        have hp2 : wr.cell? ⟨gm, om + j * 3 + 2, none⟩ = some (.int .i64 p.a) := (VM6.out.fr0 HF.out).rec St.len hp rfl
        have hso := HP.out.rises j p u hp KK.out.1
        rw [sless_not] at hso
        have hps : p.s = 0 := by
          obtain ⟨_, b', _, l', p', _, q2, q3, _, q5, _⟩ := HP.out.at_ j (by omega)
          rw [hp] at q2
          obtain rfl : p = p' := by simpa using q2
          exact H0.out b' l' p q3 (List.mem_of_getElem? q5)
        have hd1 : decide (u.t < p.t) = false := decide_eq_false (by omega)
        have hd1' : ¬ (u.t < p.t) := by omega
        have hi1 : (j : Int) + 1 < (m.length : Int) := by omega
        have hi0 : (j : Int) < (m.length : Int) := by omega
        have hj0 : (0 : Int) < (j : Int) + 1 := by omega
        have hi4 : (0 : Int) ≤ (j : Int) + 1 := by omega
        have hwk : IntKind.i64.wrap (j : Int) = (j : Int) := by rw [IntKind.wrap_i64]; omega
        have hi3 : ((j : Int) + 1).toNat = j + 1 := by omega
        by_cases hpt : u.t = p.t
        · have hbe : (u.t == p.t) = true := by rw [hpt]; simp
          have hd2 : decide ((b : Int) < p.a) = false := decide_eq_false (by have := KK.out.2.1; have := KK.out.2.2; omega)
          have hd2' : ¬ ((b : Int) < p.a) := by have := KK.out.2.1; have := KK.out.2.2; omega
          clear hp hso hps hpt
          go_upto_region 13 with (fail)
          simp only [List.append_eq, List.cons_append, List.nil_append]
          refine wp_region_tree_np (fun W => W.cell? ⟨w6.heap.size, b, none⟩ = some (.int .i64 (n : Int)) ∧ W.cell? ⟨w6.heap.size + 1, b, none⟩ = some (.slice (some ⟨g, o, none⟩) l.length c1) ∧ W.cell? ⟨g, o + n * 3, none⟩ = some (.int .i64 u.t) ∧ W.cell? ⟨g, o + n * 3 + 1, none⟩ = some (.int .i64 u.s) ∧ W.cell? ⟨g, o + n * 3 + 2, none⟩ = some (.int .i64 (b : Int)) ∧ W.cell? ⟨gm, om + (j + 1) * 3, none⟩ = some (.int .i64 u.t) ∧ W.cell? ⟨gm, om + (j + 1) * 3 + 1, none⟩ = some (.int .i64 u.s) ∧ W.cell? ⟨gm, om + (j + 1) * 3 + 2, none⟩ = some (.int .i64 (b : Int)) ∧ W.cell? ⟨gm, om + j * 3, none⟩ = some (.int .i64 p.t) ∧ W.cell? ⟨gm, om + j * 3 + 1, none⟩ = some (.int .i64 p.s) ∧ W.cell? ⟨gm, om + j * 3 + 2, none⟩ = some (.int .i64 p.a)) (.on 0 (.on 1 (.on 2 (.on 3 (.on 4 (.on 5 (.on 6 (.on 7 (.on 8 (.on 9 (.on 10 (.on 11 (.on 12 (.on 13 (.on 14 (.on 15 (.on 16 (.on 17 (.on 18 (.on 19 (.on 20 (.on 21 (.on 22 (.on 23 (.on 24 (.on 25 (.on 26 (.on 27 (.on 28 (.on 29 (.on 30 (.on 31 (.on 32 (.on 33 (.on 34 (.on 35 (.on 36 (.on 37 (.on 38 (.on 39 (.on 40 (.on 41 (.on 42 (.on 43 (.on 44 (.on 45 (.on 46 (.on 47 (.on 48 (.on 49 (.on 50 (.on 51 (.on 52 (.on 53 (.on 54 (.on 55 (.on 56 (.on 57 (.on 58 (.on 59 (.on 60 (.on 61 (.on 62 (.on 63 (.on 64 (.on 65 (.on 66 (.on 67 (.on 68 (.on 69 (.on 70 (.on 71 (.on 72 (.on 73 (.on 74 .nil))))))))))))))))))))))))))))))))))))))))))))))))))))))))))))))))))))))))))) (by kernel_rfl) (by kernel_rfl) ⟨hat, hls, hl0, hl1, hl2, hu0, hu1, hu2, hp0, hp1, hp2⟩ ?_
          iterate 75 (first | (refine ht_on (o := ?_) (v := ?_) ?_ ?_ (fun w hSw => ?_) ?_; rotate_left 2; (focus ((simp only [List.getElem?_toArray, List.getElem?_cons_succ, List.getElem?_cons_zero]); (try rfl); done)); (focus (rfl)); (focus (((try obtain ⟨s0, s1, s2, s3, s4, s5, s6, s7, s8, s9, s10⟩ := hSw); (try dsimp only at hSw); go_simp; (try with_reducible rfl)); done)); simp only [Act.put, List.setIfInBounds_toArray, List.set_cons_zero, List.set_cons_succ]) | (refine ht_off_light (o := ?_) ?_ ?_ ?_; rotate_left 1; (focus ((simp only [List.getElem?_toArray, List.getElem?_cons_succ, List.getElem?_cons_zero]); (try rfl); done)); (focus (rfl)); simp only [Act.put, List.setIfInBounds_toArray, List.set_cons_zero, List.set_cons_succ]))
          refine ht_done_np ?_
          go_wp2_with fail
          refine ⟨⟨j + 1 + 1, ats'.set b (n + 1), rfl, by omega, HST.out, ?_, (HB2.out.set_ne (by simp) _).drew, (HF.out.set (.inr (Nat.le_refl _)) _).drew⟩, ?_⟩
          · have h := (HB1.out.set b (.int .i64 ((n : Int) + 1))).drew
            unfold nats at h ⊢
            rw [List.map_set]
            exact h
          · simp [intOf]; omega
        · have hbe : (u.t == p.t) = false := by rw [beq_eq_false_iff_ne]; exact hpt
          clear hp hso hps hpt
          go_upto_region 13 with (fail)
          simp only [List.append_eq, List.cons_append, List.nil_append]
          refine wp_region_tree_np (fun W => W.cell? ⟨w6.heap.size, b, none⟩ = some (.int .i64 (n : Int)) ∧ W.cell? ⟨w6.heap.size + 1, b, none⟩ = some (.slice (some ⟨g, o, none⟩) l.length c1) ∧ W.cell? ⟨g, o + n * 3, none⟩ = some (.int .i64 u.t) ∧ W.cell? ⟨g, o + n * 3 + 1, none⟩ = some (.int .i64 u.s) ∧ W.cell? ⟨g, o + n * 3 + 2, none⟩ = some (.int .i64 (b : Int)) ∧ W.cell? ⟨gm, om + (j + 1) * 3, none⟩ = some (.int .i64 u.t) ∧ W.cell? ⟨gm, om + (j + 1) * 3 + 1, none⟩ = some (.int .i64 u.s) ∧ W.cell? ⟨gm, om + (j + 1) * 3 + 2, none⟩ = some (.int .i64 (b : Int)) ∧ W.cell? ⟨gm, om + j * 3, none⟩ = some (.int .i64 p.t) ∧ W.cell? ⟨gm, om + j * 3 + 1, none⟩ = some (.int .i64 p.s) ∧ W.cell? ⟨gm, om + j * 3 + 2, none⟩ = some (.int .i64 p.a)) (.on 0 (.on 1 (.on 2 (.on 3 (.on 4 (.on 5 (.on 6 (.on 7 (.on 8 (.on 9 (.on 10 (.on 11 (.on 12 (.on 13 (.on 14 (.on 15 (.on 16 (.on 17 (.on 18 (.on 19 (.on 20 (.on 21 (.on 22 (.on 23 (.on 24 (.on 25 (.on 26 (.on 27 (.on 28 (.on 29 (.on 30 (.on 31 (.on 32 (.on 33 (.on 34 (.on 35 (.on 36 (.on 37 (.on 38 (.on 39 (.on 40 (.on 41 (.on 42 (.on 43 (.on 44 (.on 45 (.on 46 (.on 47 (.on 48 (.on 49 (.on 50 (.on 51 (.on 52 (.on 53 (.on 54 (.on 55 (.on 56 (.on 57 (.on 58 (.on 59 (.on 60 (.on 61 (.on 62 (.on 63 (.on 64 (.on 65 (.on 66 (.on 67 (.on 68 (.on 69 (.on 70 (.on 71 (.on 72 (.on 73 (.on 74 .nil))))))))))))))))))))))))))))))))))))))))))))))))))))))))))))))))))))))))))) (by kernel_rfl) (by kernel_rfl) ⟨hat, hls, hl0, hl1, hl2, hu0, hu1, hu2, hp0, hp1, hp2⟩ ?_
          iterate 75 (first | (refine ht_on (o := ?_) (v := ?_) ?_ ?_ (fun w hSw => ?_) ?_; rotate_left 2; (focus ((simp only [List.getElem?_toArray, List.getElem?_cons_succ, List.getElem?_cons_zero]); (try rfl); done)); (focus (rfl)); (focus (((try obtain ⟨s0, s1, s2, s3, s4, s5, s6, s7, s8, s9, s10⟩ := hSw); (try dsimp only at hSw); go_simp; (try with_reducible rfl)); done)); simp only [Act.put, List.setIfInBounds_toArray, List.set_cons_zero, List.set_cons_succ]) | (refine ht_off_light (o := ?_) ?_ ?_ ?_; rotate_left 1; (focus ((simp only [List.getElem?_toArray, List.getElem?_cons_succ, List.getElem?_cons_zero]); (try rfl); done)); (focus (rfl)); simp only [Act.put, List.setIfInBounds_toArray, List.set_cons_zero, List.set_cons_succ]))
          refine ht_done_np ?_
          go_wp2_with fail
          refine ⟨⟨j + 1 + 1, ats'.set b (n + 1), rfl, by omega, HST.out, ?_, (HB2.out.set_ne (by simp) _).drew, (HF.out.set (.inr (Nat.le_refl _)) _).drew⟩, ?_⟩
          · have h := (HB1.out.set b (.int .i64 ((n : Int) + 1))).drew
            unfold nats at h ⊢
            rw [List.map_set]
            exact h
          · simp [intOf]; omega
    · clear HPL HB1 HB2 hi
      go_wp2_with fail
      have F9 := Lib.hid ((F6.out.trans0 HF.out).alloc (.cells #[.int .i64 2, .int .i64 0, .int .i64 0, .int .i64 1, .int .i64 0, .int .i64 0] 49))
      have R9 : Hid (Reads (wr.alloc (.cells #[.int .i64 2, .int .i64 0, .int .i64 0, .int .i64 1, .int .i64 0, .int .i64 0] 49)) 3 (.slice (some ⟨wr.heap.size, 0, none⟩) 2 2) 2 ([(⟨2, 0, 0⟩ : St), ⟨1, 0, 0⟩].flatMap St.cells)) := Lib.hid
        ⟨rfl, _, _, rfl, by omega, .inr ⟨_, _, rfl, fun q v hv => by
          have h := (Blk.new wr [.int .i64 2, .int .i64 0, .int .i64 0, .int .i64 1, .int .i64 0, .int .i64 0] 49).cell (0 + q)
          rw [h, Nat.zero_add]; exact hv⟩⟩
      refine (Seqs.awake_any _).mono ?_
      rintro e w10 ⟨rfl, hf⟩
      have F10 := Lib.hid (F9.out.trans0 hf)
      have R10 := Lib.hid (R9.out.fr0 hf)
      clear hf F9 R9
      go_wp2_with fail
      refine (rises_any [(⟨2, 0, 0⟩ : St), ⟨1, 0, 0⟩] (some ⟨wr.heap.size, 0, none⟩) 2 w10 R10.out (by simp)).mono ?_
      rintro e w11 ⟨rfl, hf⟩
      have e2 : risesM [(⟨2, 0, 0⟩ : St), ⟨1, 0, 0⟩] = false := by decide
      rw [e2]
      have F11 := Lib.hid (F10.out.trans0 hf)
      clear hf F10 R10 e2
      go_wp2_with fail
      refine (merge_nil _).mono ?_
      rintro e w12 ⟨rfl, hf⟩
      have F12 := Lib.hid (F11.out.trans0 hf)
      clear hf F11
      go_wp2_with fail
      go_ret
      exact ⟨rfl, F12.out⟩
end Go.Proofs.Ytcnoaflojojfkab.SeqsMerge
