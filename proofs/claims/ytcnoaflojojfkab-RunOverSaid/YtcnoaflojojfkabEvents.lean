/- Events that the statements make (lamplighterref03.Event, Events): what they are in memory. No condition. -/
import Derived.Test.YtcnoaflojojfkabOpenEvents
import Derived.Test.YtcnoaflojojfkabQueryParts
namespace Go.Proofs.Ytcnoaflojojfkab.Evt
open Go.RowKit Go.Proofs.Ytcnoaflojojfkab.Pat Go.Proofs.Ytcnoaflojojfkab.Qry
set_option linter.unusedVariables false
set_option linter.unusedSimpArgs false
set_option maxRecDepth 100000
def tA (k : Nat) : ByteArray := match k with | 0 => ⟨#[65]⟩ | 1 => ⟨#[66]⟩ | _ => ⟨#[67]⟩
def tK (k : Nat) : ByteArray := match k with | 0 => ⟨#[107]⟩ | 1 => ⟨#[108]⟩ | _ => ⟨#[109]⟩
theorem tA_get {k : Nat} (hk : k < 3) : [Value.string ⟨#[65]⟩, .string ⟨#[66]⟩, .string ⟨#[67]⟩][k]? = some (.string (tA k)) := by
  match k, hk with
  | 0, _ => rfl
  | 1, _ => rfl
  | 2, _ => rfl
theorem tK_get {k : Nat} (hk : k < 3) : [Value.string ⟨#[107]⟩, .string ⟨#[108]⟩, .string ⟨#[109]⟩][k]? = some (.string (tK k)) := by
  match k, hk with
  | 0, _ => rfl
  | 1, _ => rfl
  | 2, _ => rfl
/-- an event that was made: what its values are in memory -/
def Made (W : World) (B : Nat) (x : Ev) : Prop := x.vn ≤ 3 ∧ ∃ vs : List Vl, vs.length = x.vn ∧ View W B 137 4 (.slice x.va x.vn x.vc) x.vn (vs.flatMap Vl.cells)
theorem value_at {w : World} {a : Option Addr} {n c : Nat} {vs : List Vl} (h : Reads w 4 (.slice a n c) n (vs.flatMap Vl.cells)) {v : Vl} (hv : vs[0]? = some v) : ∃ b o, a = some ⟨b, o, none⟩ ∧ w.cell? ⟨b, o + 1, none⟩ = some (.int .i64 v.i) ∧ w.cell? ⟨b, o + 3, none⟩ = some (.bool v.b) := by
  obtain ⟨b, o, rfl⟩ := h.rec_addr Vl.len (by omega) hv
  have h1 := h.rec Vl.len hv (k := 1) rfl
  have h3 := h.rec Vl.len hv (k := 3) rfl
  simp only [Nat.zero_mul, Nat.add_zero] at h1 h3
  exact ⟨b, o, rfl, h1, h3⟩
theorem five_sets {W : World} {eb : Nat} {t : TypeId} {z0 z1 z2 z3 z4 : Value} (h : Blk W eb [z0, z1, z2, z3, z4] t) (v0 v1 v2 v3 v4 : Value) :
    Blk (((((W.setCell ⟨eb, 0, none⟩ v0).setCell ⟨eb, 1, none⟩ v1).setCell ⟨eb, 2, none⟩ v2).setCell ⟨eb, 3, none⟩ v3).setCell ⟨eb, 4, none⟩ v4) eb [v0, v1, v2, v3, v4] t ∧
    Fr [eb] W (((((W.setCell ⟨eb, 0, none⟩ v0).setCell ⟨eb, 1, none⟩ v1).setCell ⟨eb, 2, none⟩ v2).setCell ⟨eb, 3, none⟩ v3).setCell ⟨eb, 4, none⟩ v4) :=
  ⟨((((h.set 0 v0).set 1 v1).set 2 v2).set 3 v3).set 4 v4, (((((Fr.refl [eb] W).set (.inl (by simp)) _).set (.inl (by simp)) _).set (.inl (by simp)) _).set (.inl (by simp)) _).set (.inl (by simp)) _⟩
set_option maxHeartbeats 8000000 in
theorem event_any (e : Ev) (w : World) (hok : EvOk w e) : Calls Try.prog 77 #[.agg #[.string e.typ, .string e.key, .int .i64 e.time, .int .i64 e.seq, .slice e.va e.vn e.vc]] w fun r w' =>
    ∃ x : Ev, r = .returned (.agg #[.string x.typ, .string x.key, .int .i64 x.time, .int .i64 x.seq, .slice x.va x.vn x.vc]) ∧ x.time = e.time % 16 ∧ x.seq = 0 ∧ Made w' w.heap.size x ∧ Fr [] w w' := by
  obtain ⟨hvm, _, _, vs, hvl, hvr⟩ := hok
  have HV := Lib.hid hvr
  have HVL := Lib.hid hvl
  clear hvr hvl
  have hseq : bits .and .i64 e.seq 255 = e.seq % 256 := and255 e.seq
  obtain ⟨kk, hkk⟩ : ∃ q : Nat, (q : Int) = (e.seq % 256) % 3 := ⟨((e.seq % 256) % 3).toNat, by omega⟩
  have hk3 : kk < 3 := by omega
  have hrem : (e.seq % 256).tmod 3 = (kk : Int) := by rw [Int.tmod_eq_emod_of_nonneg (by omega)]; exact hkk.symm
  have hkI : (kk : Int) < 3 := by omega
  obtain ⟨ll, hll⟩ : ∃ q : Nat, q = e.key.size % 3 := ⟨_, rfl⟩
  have hl3 : ll < 3 := by omega
  have hrem2 : ((e.key.size : Nat) : Int).tmod 3 = (ll : Int) := by rw [Int.tmod_eq_emod_of_nonneg (by omega), hll]; rfl
  have hlI : (ll : Int) < 3 := by omega
  have htime : bits .and .i64 e.time 15 = e.time % 16 := and15 e.time
  have hn2 := new2 w [.string e.typ, .string e.key, .int .i64 e.time, .int .i64 e.seq, .slice e.va e.vn e.vc] 79 [.string ⟨#[]⟩, .string ⟨#[]⟩, .int .i64 0, .int .i64 0, .slice none 0 0] 79
  have HN2 := Lib.hid hn2
  clear hkk hll hn2
  go_enter Try.func77, Try.ntmps77
  go_upto_region 2 with (fail)
  obtain ⟨w1, hw1⟩ : ∃ W, W = (w.alloc (.cells [.string e.typ, .string e.key, .int .i64 e.time, .int .i64 e.seq, .slice e.va e.vn e.vc].toArray 79)).alloc (.cells [.string ⟨#[]⟩, .string ⟨#[]⟩, .int .i64 0, .int .i64 0, .slice none 0 0].toArray 79) := ⟨_, rfl⟩
  rw [← hw1] at HN2
  rw [show (w.alloc (.cells #[.string e.typ, .string e.key, .int .i64 e.time, .int .i64 e.seq, .slice e.va e.vn e.vc] 79)).alloc (.cells #[.string ⟨#[]⟩, .string ⟨#[]⟩, .int .i64 0, .int .i64 0, .slice none 0 0] 79) = w1 from hw1.symm]
  clear hw1
  have b2 := HN2.out.1.cell_at (o := 2) rfl
  go_cut [5, 6] (fun v5 v6 wc => ∃ b : Bool, v5 = .string ⟨#[117]⟩ ∧ v6 = .bool b ∧ ∃ q, wc = w1.drewN q)
  case first =>
    go_quiet (fail)
    go_wp2_with fail
    go_meet
    case rel => exact ⟨_, rfl, rfl, _, rfl⟩
  case rest =>
    obtain ⟨b6, rfl, rfl, q, rfl⟩ := hcut
    obtain ⟨w2, hw2⟩ : ∃ W, W = w1.drewN q := ⟨_, rfl⟩
    have hf : Fr [] w1 w2 := by rw [hw2]; exact (Fr.refl _ _).drewN _
    rw [← hw2]
    have BX := Lib.hid (HN2.out.1.fr hf (by simp))
    have BR := Lib.hid (HN2.out.2.1.fr hf (by simp))
    have F2 := Lib.hid (HN2.out.2.2.trans0 hf)
    clear hw2 hf b2 HN2
    have b4 := BX.out.cell_at (o := 4) rfl
    go_upto_if 20 with (fail)
    go_cut [4, 5] (fun v4 v5 wc => ∃ (n : Int) (s : ByteArray), v4 = .int .i64 n ∧ v5 = .string s ∧ wc = w2)
    case first =>
      by_cases h0 : 0 < e.vn
      · obtain ⟨v, hv⟩ : ∃ v, vs[0]? = some v := ⟨vs[0]'(by rw [HVL.out]; exact h0), List.getElem?_eq_getElem _⟩
        obtain ⟨gb, go, hva, hc1, hc3⟩ := value_at (HV.out.fr0 F2.out) hv
        rw [hva] at b4
        have h0I : (0 : Int) < (e.vn : Int) := by omega
        clear hv
        cases hb : v.b with
        | true =>
          rw [hb] at hc3
          go_wp2_with fail
          go_meet
          case rel => exact ⟨_, _, rfl, rfl, rfl⟩
        | false =>
          rw [hb] at hc3
          go_wp2_with fail
          go_meet
          case rel => exact ⟨_, _, rfl, rfl, rfl⟩
      · go_wp2_with fail
        go_meet
        case rel => exact ⟨_, _, rfl, rfl, rfl⟩
    case rest =>
      obtain ⟨n, s, rfl, rfl, rfl⟩ := hcut
      obtain ⟨w3, rfl⟩ : ∃ W, W = wc := ⟨_, rfl⟩
      clear b4
      have b1 := BX.out.cell_at (o := 1) rfl
      have b2 := BX.out.cell_at (o := 2) rfl
      go_upto_region 7 with (fail)
      go_cut [] (fun wc => Blk wc (w.heap.size + 1) [.string (tA kk), .string (tK ll), .int .i64 (e.time % 16), .int .i64 0, .slice none 0 0] 79 ∧ Fr [] w wc)
      case first =>
        refine wp_region_tree_np (fun W => W.cell? ⟨w.heap.size, 1, none⟩ = some (.string e.key) ∧ W.cell? ⟨w.heap.size, 2, none⟩ = some (.int .i64 e.time)) (.on 1 (.on 5 (.on 6 (.on 7 (.on 8 (.on 11 (.on 12 (.on 13 (.two 0 (.up (.on 2 (.on 3 (.one 4 (.up (.on 9 (.on 10 (.on 14 (.one 15 .nil))))))))) 4 (.up (.on 9 (.on 10 (.one 0 (.up (.on 2 (.on 3 (.on 14 (.one 15 .nil)))))))))))))))))) (by kernel_rfl) (by kernel_rfl) ⟨b1, b2⟩ ?_
        obtain ⟨x0, hx0⟩ : ∃ W, W = w3.drew := ⟨_, rfl⟩
        have hf : Fr [] w3 x0 := by rw [hx0]; exact (Fr.refl _ _).drew
        rw [← hx0]
        have P0 := Lib.hid (And.intro (hf.cell b1 (by simp)) (hf.cell b2 (by simp)))
        have BR0 := Lib.hid (BR.out.fr hf (by simp))
        have E0 := Lib.hid (F2.out.trans0 hf)
        clear hf hx0 b1 b2
        iterate 8 (first | (refine ht_on (o := ?_) (v := ?_) ?_ ?_ (fun w hSw => ?_) ?_; rotate_left 2; (focus ((simp only [List.getElem?_toArray, List.getElem?_cons_succ, List.getElem?_cons_zero]); (try rfl); done)); (focus (rfl)); (focus (((try obtain ⟨s0, s1⟩ := hSw); (try dsimp only at hSw); go_simp; (try with_reducible rfl)); done)); simp only [Act.put, List.setIfInBounds_toArray, List.set_cons_zero, List.set_cons_succ]) | (refine ht_off_light (o := ?_) ?_ ?_ ?_; rotate_left 1; (focus ((simp only [List.getElem?_toArray, List.getElem?_cons_succ, List.getElem?_cons_zero]); (try rfl); done)); (focus (rfl)); simp only [Act.put, List.setIfInBounds_toArray, List.set_cons_zero, List.set_cons_succ]))
        refine ht_two (o := ?_) (o' := ?_) ?_ ?_ ?_ ?_ (fun K hK => ?_) (fun K hK => ?_)
        rotate_left 2
        (focus ((simp only [List.getElem?_toArray, List.getElem?_cons_succ, List.getElem?_cons_zero]); (try rfl); done))
        focus (rfl)
        (focus ((simp only [List.getElem?_toArray, List.getElem?_cons_succ, List.getElem?_cons_zero]); (try rfl); done))
        focus (rfl)
        · go_simp
          obtain ⟨x1, hw⟩ : ∃ W, W = x0.alloc (.cells [.string ⟨#[65]⟩, .string ⟨#[66]⟩, .string ⟨#[67]⟩].toArray 9) := ⟨_, rfl⟩
          rw [show x0.alloc (.cells #[.string ⟨#[65]⟩, .string ⟨#[66]⟩, .string ⟨#[67]⟩] 9) = x1 from hw.symm]
          have hf : Fr [] x0 x1 := by rw [hw]; exact (Fr.refl _ _).alloc _
          have A1 : Hid (x1.cell? ⟨x0.heap.size, kk, none⟩ = some (.string (tA kk))) := Lib.hid (by rw [hw]; exact (Blk.new x0 [.string ⟨#[65]⟩, .string ⟨#[66]⟩, .string ⟨#[67]⟩] 9).cell_at (tA_get hk3))
          have Hg1' : Hid (w.heap.size + 2 ≤ x0.heap.size) := Lib.hid (by have h1 := BR0.out.lt; omega)
          obtain ⟨g1, hg1⟩ : ∃ q, q = x0.heap.size := ⟨_, rfl⟩
          rw [← hg1] at A1 Hg1' ⊢
          clear hw hg1
          have P1 := Lib.hid (And.intro (hf.cell P0.out.1 (by simp)) (hf.cell P0.out.2 (by simp)))
          have BR1 := Lib.hid (BR0.out.fr hf (by simp))
          have E1 := Lib.hid (E0.out.trans0 hf)
          clear hf
          refine hK.out _ _ ⟨P1.out.1, P1.out.2⟩ (fun _ => ?_)
          try simp only [Act.put, List.setIfInBounds_toArray, List.set_cons_zero, List.set_cons_succ]
          refine ht_up (fun W => W.cell? ⟨w.heap.size, 1, none⟩ = some (.string e.key) ∧ W.cell? ⟨w.heap.size, 2, none⟩ = some (.int .i64 e.time) ∧ W.cell? ⟨g1, kk, none⟩ = some (.string (tA kk))) (fun _ ⟨h0, h1, h2⟩ => ⟨h0, h1⟩) ⟨P1.out.1, P1.out.2, A1.out⟩ ?_
          iterate 2 (first | (refine ht_on (o := ?_) (v := ?_) ?_ ?_ (fun w hSw => ?_) ?_; rotate_left 2; (focus ((simp only [List.getElem?_toArray, List.getElem?_cons_succ, List.getElem?_cons_zero]); (try rfl); done)); (focus (rfl)); (focus (((try obtain ⟨s0, s1⟩ := hSw); (try dsimp only at hSw); go_simp; (try with_reducible rfl)); done)); simp only [Act.put, List.setIfInBounds_toArray, List.set_cons_zero, List.set_cons_succ]) | (refine ht_off_light (o := ?_) ?_ ?_ ?_; rotate_left 1; (focus ((simp only [List.getElem?_toArray, List.getElem?_cons_succ, List.getElem?_cons_zero]); (try rfl); done)); (focus (rfl)); simp only [Act.put, List.setIfInBounds_toArray, List.set_cons_zero, List.set_cons_succ]))
          refine ht_one (o := ?_) ?_ ?_ (fun K hK => ?_)
          rotate_left 1
          (focus ((simp only [List.getElem?_toArray, List.getElem?_cons_succ, List.getElem?_cons_zero]); (try rfl); done))
          focus (rfl)
          go_simp
          obtain ⟨x2, hw⟩ : ∃ W, W = x1.alloc (.cells [.string ⟨#[107]⟩, .string ⟨#[108]⟩, .string ⟨#[109]⟩].toArray 9) := ⟨_, rfl⟩
          rw [show x1.alloc (.cells #[.string ⟨#[107]⟩, .string ⟨#[108]⟩, .string ⟨#[109]⟩] 9) = x2 from hw.symm]
          have hf : Fr [] x1 x2 := by rw [hw]; exact (Fr.refl _ _).alloc _
          have C2 : Hid (x2.cell? ⟨x1.heap.size, ll, none⟩ = some (.string (tK ll))) := Lib.hid (by rw [hw]; exact (Blk.new x1 [.string ⟨#[107]⟩, .string ⟨#[108]⟩, .string ⟨#[109]⟩] 9).cell_at (tK_get hl3))
          have Hg2' : Hid (w.heap.size + 2 ≤ x1.heap.size) := Lib.hid (by have h1 := BR1.out.lt; omega)
          obtain ⟨g2, hg2⟩ : ∃ q, q = x1.heap.size := ⟨_, rfl⟩
          rw [← hg2] at C2 Hg2' ⊢
          clear hw hg2
          have A2 := Lib.hid (hf.cell A1.out (by simp))
          have P2 := Lib.hid (And.intro (hf.cell P1.out.1 (by simp)) (hf.cell P1.out.2 (by simp)))
          have BR2 := Lib.hid (BR1.out.fr hf (by simp))
          have E2 := Lib.hid (E1.out.trans0 hf)
          clear hf
          refine hK.out _ _ ⟨P2.out.1, P2.out.2, A2.out⟩ (fun _ => ?_)
          try simp only [Act.put, List.setIfInBounds_toArray, List.set_cons_zero, List.set_cons_succ]
          refine ht_up (fun W => W.cell? ⟨w.heap.size, 1, none⟩ = some (.string e.key) ∧ W.cell? ⟨w.heap.size, 2, none⟩ = some (.int .i64 e.time) ∧ W.cell? ⟨g1, kk, none⟩ = some (.string (tA kk)) ∧ W.cell? ⟨g2, ll, none⟩ = some (.string (tK ll))) (fun _ ⟨h0, h1, h2, h3⟩ => ⟨h0, h1, h2⟩) ⟨P2.out.1, P2.out.2, A2.out, C2.out⟩ ?_
          iterate 3 (first | (refine ht_on (o := ?_) (v := ?_) ?_ ?_ (fun w hSw => ?_) ?_; rotate_left 2; (focus ((simp only [List.getElem?_toArray, List.getElem?_cons_succ, List.getElem?_cons_zero]); (try rfl); done)); (focus (rfl)); (focus (((try obtain ⟨s0, s1⟩ := hSw); (try dsimp only at hSw); go_simp; (try with_reducible rfl)); done)); simp only [Act.put, List.setIfInBounds_toArray, List.set_cons_zero, List.set_cons_succ]) | (refine ht_off_light (o := ?_) ?_ ?_ ?_; rotate_left 1; (focus ((simp only [List.getElem?_toArray, List.getElem?_cons_succ, List.getElem?_cons_zero]); (try rfl); done)); (focus (rfl)); simp only [Act.put, List.setIfInBounds_toArray, List.set_cons_zero, List.set_cons_succ]))
          refine ht_one (o := ?_) ?_ ?_ (fun K hK => ?_)
          rotate_left 1
          (focus ((simp only [List.getElem?_toArray, List.getElem?_cons_succ, List.getElem?_cons_zero]); (try rfl); done))
          focus (rfl)
          have c0 := BR2.out.cell_at (o := 0) rfl
          have c1 := BR2.out.cell_at (o := 1) rfl
          have c2 := BR2.out.cell_at (o := 2) rfl
          have c3 := BR2.out.cell_at (o := 3) rfl
          have c4 := BR2.out.cell_at (o := 4) rfl
          have hfz := BR2.out.thawed
          go_simp
          have hs := five_sets BR2.out (.string (tA kk)) (.string (tK ll)) (.int .i64 (e.time % 16)) (.int .i64 0) (.slice none 0 0)
          have hg1 : g1 ∉ [w.heap.size + 1] := by have := Hg1'.out; simp; omega
          have hg2 : g2 ∉ [w.heap.size + 1] := by have := Hg2'.out; simp; omega
          refine hK.out _ _ ⟨hs.2.cell P2.out.1 (by simp), hs.2.cell P2.out.2 (by simp), hs.2.cell A2.out hg1, hs.2.cell C2.out hg2⟩ (fun _ => ?_)
          try simp only [Act.put, List.setIfInBounds_toArray, List.set_cons_zero, List.set_cons_succ]
          refine ht_done_np ?_
          have HS := Lib.hid hs
          have EX := Lib.hid (E2.out.trans hs.2 (fun b hb => .inr (by simp at hb; omega)))
          clear hs hg1 hg2
          go_wp2_with fail
          go_meet
          case rel => exact ⟨HS.out.1, EX.out⟩
        · go_simp
          obtain ⟨x1, hw⟩ : ∃ W, W = x0.alloc (.cells [.string ⟨#[107]⟩, .string ⟨#[108]⟩, .string ⟨#[109]⟩].toArray 9) := ⟨_, rfl⟩
          rw [show x0.alloc (.cells #[.string ⟨#[107]⟩, .string ⟨#[108]⟩, .string ⟨#[109]⟩] 9) = x1 from hw.symm]
          have hf : Fr [] x0 x1 := by rw [hw]; exact (Fr.refl _ _).alloc _
          have C1 : Hid (x1.cell? ⟨x0.heap.size, ll, none⟩ = some (.string (tK ll))) := Lib.hid (by rw [hw]; exact (Blk.new x0 [.string ⟨#[107]⟩, .string ⟨#[108]⟩, .string ⟨#[109]⟩] 9).cell_at (tK_get hl3))
          have Hg2' : Hid (w.heap.size + 2 ≤ x0.heap.size) := Lib.hid (by have h1 := BR0.out.lt; omega)
          obtain ⟨g2, hg2⟩ : ∃ q, q = x0.heap.size := ⟨_, rfl⟩
          rw [← hg2] at C1 Hg2' ⊢
          clear hw hg2
          have P1 := Lib.hid (And.intro (hf.cell P0.out.1 (by simp)) (hf.cell P0.out.2 (by simp)))
          have BR1 := Lib.hid (BR0.out.fr hf (by simp))
          have E1 := Lib.hid (E0.out.trans0 hf)
          clear hf
          refine hK.out _ _ ⟨P1.out.1, P1.out.2⟩ (fun _ => ?_)
          try simp only [Act.put, List.setIfInBounds_toArray, List.set_cons_zero, List.set_cons_succ]
          refine ht_up (fun W => W.cell? ⟨w.heap.size, 1, none⟩ = some (.string e.key) ∧ W.cell? ⟨w.heap.size, 2, none⟩ = some (.int .i64 e.time) ∧ W.cell? ⟨g2, ll, none⟩ = some (.string (tK ll))) (fun _ ⟨h0, h1, h2⟩ => ⟨h0, h1⟩) ⟨P1.out.1, P1.out.2, C1.out⟩ ?_
          iterate 2 (first | (refine ht_on (o := ?_) (v := ?_) ?_ ?_ (fun w hSw => ?_) ?_; rotate_left 2; (focus ((simp only [List.getElem?_toArray, List.getElem?_cons_succ, List.getElem?_cons_zero]); (try rfl); done)); (focus (rfl)); (focus (((try obtain ⟨s0, s1⟩ := hSw); (try dsimp only at hSw); go_simp; (try with_reducible rfl)); done)); simp only [Act.put, List.setIfInBounds_toArray, List.set_cons_zero, List.set_cons_succ]) | (refine ht_off_light (o := ?_) ?_ ?_ ?_; rotate_left 1; (focus ((simp only [List.getElem?_toArray, List.getElem?_cons_succ, List.getElem?_cons_zero]); (try rfl); done)); (focus (rfl)); simp only [Act.put, List.setIfInBounds_toArray, List.set_cons_zero, List.set_cons_succ]))
          refine ht_one (o := ?_) ?_ ?_ (fun K hK => ?_)
          rotate_left 1
          (focus ((simp only [List.getElem?_toArray, List.getElem?_cons_succ, List.getElem?_cons_zero]); (try rfl); done))
          focus (rfl)
          go_simp
          obtain ⟨x2, hw⟩ : ∃ W, W = x1.alloc (.cells [.string ⟨#[65]⟩, .string ⟨#[66]⟩, .string ⟨#[67]⟩].toArray 9) := ⟨_, rfl⟩
          rw [show x1.alloc (.cells #[.string ⟨#[65]⟩, .string ⟨#[66]⟩, .string ⟨#[67]⟩] 9) = x2 from hw.symm]
          have hf : Fr [] x1 x2 := by rw [hw]; exact (Fr.refl _ _).alloc _
          have A2 : Hid (x2.cell? ⟨x1.heap.size, kk, none⟩ = some (.string (tA kk))) := Lib.hid (by rw [hw]; exact (Blk.new x1 [.string ⟨#[65]⟩, .string ⟨#[66]⟩, .string ⟨#[67]⟩] 9).cell_at (tA_get hk3))
          have Hg1' : Hid (w.heap.size + 2 ≤ x1.heap.size) := Lib.hid (by have h1 := BR1.out.lt; omega)
          obtain ⟨g1, hg1⟩ : ∃ q, q = x1.heap.size := ⟨_, rfl⟩
          rw [← hg1] at A2 Hg1' ⊢
          clear hw hg1
          have C2 := Lib.hid (hf.cell C1.out (by simp))
          have P2 := Lib.hid (And.intro (hf.cell P1.out.1 (by simp)) (hf.cell P1.out.2 (by simp)))
          have BR2 := Lib.hid (BR1.out.fr hf (by simp))
          have E2 := Lib.hid (E1.out.trans0 hf)
          clear hf
          refine hK.out _ _ ⟨P2.out.1, P2.out.2, C2.out⟩ (fun _ => ?_)
          try simp only [Act.put, List.setIfInBounds_toArray, List.set_cons_zero, List.set_cons_succ]
          refine ht_up (fun W => W.cell? ⟨w.heap.size, 1, none⟩ = some (.string e.key) ∧ W.cell? ⟨w.heap.size, 2, none⟩ = some (.int .i64 e.time) ∧ W.cell? ⟨g1, kk, none⟩ = some (.string (tA kk)) ∧ W.cell? ⟨g2, ll, none⟩ = some (.string (tK ll))) (fun _ ⟨h0, h1, h2, h3⟩ => ⟨h0, h1, h3⟩) ⟨P2.out.1, P2.out.2, A2.out, C2.out⟩ ?_
          iterate 3 (first | (refine ht_on (o := ?_) (v := ?_) ?_ ?_ (fun w hSw => ?_) ?_; rotate_left 2; (focus ((simp only [List.getElem?_toArray, List.getElem?_cons_succ, List.getElem?_cons_zero]); (try rfl); done)); (focus (rfl)); (focus (((try obtain ⟨s0, s1⟩ := hSw); (try dsimp only at hSw); go_simp; (try with_reducible rfl)); done)); simp only [Act.put, List.setIfInBounds_toArray, List.set_cons_zero, List.set_cons_succ]) | (refine ht_off_light (o := ?_) ?_ ?_ ?_; rotate_left 1; (focus ((simp only [List.getElem?_toArray, List.getElem?_cons_succ, List.getElem?_cons_zero]); (try rfl); done)); (focus (rfl)); simp only [Act.put, List.setIfInBounds_toArray, List.set_cons_zero, List.set_cons_succ]))
          refine ht_one (o := ?_) ?_ ?_ (fun K hK => ?_)
          rotate_left 1
          (focus ((simp only [List.getElem?_toArray, List.getElem?_cons_succ, List.getElem?_cons_zero]); (try rfl); done))
          focus (rfl)
          have c0 := BR2.out.cell_at (o := 0) rfl
          have c1 := BR2.out.cell_at (o := 1) rfl
          have c2 := BR2.out.cell_at (o := 2) rfl
          have c3 := BR2.out.cell_at (o := 3) rfl
          have c4 := BR2.out.cell_at (o := 4) rfl
          have hfz := BR2.out.thawed
          go_simp
          have hs := five_sets BR2.out (.string (tA kk)) (.string (tK ll)) (.int .i64 (e.time % 16)) (.int .i64 0) (.slice none 0 0)
          have hg1 : g1 ∉ [w.heap.size + 1] := by have := Hg1'.out; simp; omega
          have hg2 : g2 ∉ [w.heap.size + 1] := by have := Hg2'.out; simp; omega
          refine hK.out _ _ ⟨hs.2.cell P2.out.1 (by simp), hs.2.cell P2.out.2 (by simp), hs.2.cell A2.out hg1, hs.2.cell C2.out hg2⟩ (fun _ => ?_)
          try simp only [Act.put, List.setIfInBounds_toArray, List.set_cons_zero, List.set_cons_succ]
          refine ht_done_np ?_
          have HS := Lib.hid hs
          have EX := Lib.hid (E2.out.trans hs.2 (fun b hb => .inr (by simp at hb; omega)))
          clear hs hg1 hg2
          go_wp2_with fail
          go_meet
          case rel => exact ⟨HS.out.1, EX.out⟩
      case rest =>
        obtain ⟨hB, hF⟩ := hcut
        obtain ⟨w4, rfl⟩ : ∃ W, W = wc := ⟨_, rfl⟩
        clear b1 b2 BX BR F2
        go_upto_region 9 with (fail)
        have hn2 := new2 w4 [.int .i64 1, .int .i64 n, .string ⟨#[]⟩, .bool false] 137 [.int .i64 2, .int .i64 0, .string s, .bool false] 137
        obtain ⟨w5, hw5⟩ : ∃ W, W = (w4.alloc (.cells [.int .i64 1, .int .i64 n, .string ⟨#[]⟩, .bool false].toArray 137)).alloc (.cells [.int .i64 2, .int .i64 0, .string s, .bool false].toArray 137) := ⟨_, rfl⟩
        rw [← hw5] at hn2
        rw [show (w4.alloc (.cells #[.int .i64 1, .int .i64 n, .string ⟨#[]⟩, .bool false] 137)).alloc (.cells #[.int .i64 2, .int .i64 0, .string s, .bool false] 137) = w5 from hw5.symm]
        clear hw5
        have BR5 := Lib.hid (hB.fr hn2.2.2 (by simp))
        have F5 := Lib.hid (hF.trans0 hn2.2.2)
        have v0 := hn2.1.cell_at (o := 0) rfl
        have v1 := hn2.1.cell_at (o := 1) rfl
        have v2 := hn2.1.cell_at (o := 2) rfl
        have v3 := hn2.1.cell_at (o := 3) rfl
        have u0 := hn2.2.1.cell_at (o := 0) rfl
        have u1 := hn2.2.1.cell_at (o := 1) rfl
        have u2 := hn2.2.1.cell_at (o := 2) rfl
        have u3 := hn2.2.1.cell_at (o := 3) rfl
        have c4 := fun ob => (BR5.out.alloc ob).cell_at (o := 4) rfl
        have hfz := fun ob => (BR5.out.alloc ob).thawed
        clear hn2 hB hF
        go_upto_if 52 with (fail)
        go_cut [] (fun wc => ∃ (vs : List Vl) (va : Option Addr) (vc : Nat), vs.length ≤ 3 ∧ Blk wc (w.heap.size + 1) [.string (tA kk), .string (tK ll), .int .i64 (e.time % 16), .int .i64 0, .slice va vs.length vc] 79 ∧
          View wc w.heap.size 137 4 (.slice va vs.length vc) vs.length (vs.flatMap Vl.cells) ∧ (∀ g, (Value.slice va vs.length vc).ownBlock = some g → g ≠ w.heap.size + 1) ∧ Fr [] w wc)
        case first =>
          by_cases hk2 : kk = 2
          · have hke : ((kk : Int) == 2) = true := by rw [hk2]; rfl
            clear hk2
            go_wp2_with fail
            go_meet
            case rel =>
              have hV : View (w5.alloc (.cells (([⟨2, 0, s, false⟩, ⟨1, n, ⟨#[]⟩, false⟩, ⟨3, 0, ⟨#[]⟩, b6⟩] : List Vl).flatMap Vl.cells).toArray 137)) w.heap.size 137 4 (.slice (some ⟨w5.heap.size, 0, none⟩) 3 3) 3 (([⟨2, 0, s, false⟩, ⟨1, n, ⟨#[]⟩, false⟩, ⟨3, 0, ⟨#[]⟩, b6⟩] : List Vl).flatMap Vl.cells) :=
                View.of_blk (Blk.new w5 _ _) F5.out.size rfl (by decide)
              have hne : w5.heap.size ≠ w.heap.size + 1 := by have := BR5.out.lt; omega
              have hset : Fr [w.heap.size + 1] (w5.alloc (.cells (([⟨2, 0, s, false⟩, ⟨1, n, ⟨#[]⟩, false⟩, ⟨3, 0, ⟨#[]⟩, b6⟩] : List Vl).flatMap Vl.cells).toArray 137)) ((w5.alloc (.cells (([⟨2, 0, s, false⟩, ⟨1, n, ⟨#[]⟩, false⟩, ⟨3, 0, ⟨#[]⟩, b6⟩] : List Vl).flatMap Vl.cells).toArray 137)).setCell ⟨w.heap.size + 1, 4, none⟩ (.slice (some ⟨w5.heap.size, 0, none⟩) 3 3)) := (Fr.refl _ _).set (.inl (by simp)) _
              refine ⟨[⟨2, 0, s, false⟩, ⟨1, n, ⟨#[]⟩, false⟩, ⟨3, 0, ⟨#[]⟩, b6⟩], some ⟨w5.heap.size, 0, none⟩, 3, by simp, (BR5.out.alloc _).set 4 _, hV.fr hset (fun g hg => ?_), fun g hg => ?_, (F5.out.alloc _).trans hset (fun b hb => .inr (by simp at hb; omega))⟩
              · have h : w5.heap.size = g := Option.some.inj hg
                simp; omega
              · have h : w5.heap.size = g := Option.some.inj hg
                omega
          · have hke : ((kk : Int) == 2) = false := by rw [beq_eq_false_iff_ne]; omega
            have hke2 : (kk == 2) = false := by rw [beq_eq_false_iff_ne]; exact hk2
            clear hk2
            go_wp2_with fail
            go_meet
            case rel =>
              have hV : View (w5.alloc (.cells (([⟨1, n, ⟨#[]⟩, false⟩, ⟨2, 0, s, false⟩] : List Vl).flatMap Vl.cells).toArray 137)) w.heap.size 137 4 (.slice (some ⟨w5.heap.size, 0, none⟩) 2 2) 2 (([⟨1, n, ⟨#[]⟩, false⟩, ⟨2, 0, s, false⟩] : List Vl).flatMap Vl.cells) :=
                View.of_blk (Blk.new w5 _ _) F5.out.size rfl (by decide)
              have hne : w5.heap.size ≠ w.heap.size + 1 := by have := BR5.out.lt; omega
              have hset : Fr [w.heap.size + 1] (w5.alloc (.cells (([⟨1, n, ⟨#[]⟩, false⟩, ⟨2, 0, s, false⟩] : List Vl).flatMap Vl.cells).toArray 137)) ((w5.alloc (.cells (([⟨1, n, ⟨#[]⟩, false⟩, ⟨2, 0, s, false⟩] : List Vl).flatMap Vl.cells).toArray 137)).setCell ⟨w.heap.size + 1, 4, none⟩ (.slice (some ⟨w5.heap.size, 0, none⟩) 2 2)) := (Fr.refl _ _).set (.inl (by simp)) _
              refine ⟨[⟨1, n, ⟨#[]⟩, false⟩, ⟨2, 0, s, false⟩], some ⟨w5.heap.size, 0, none⟩, 2, by simp, (BR5.out.alloc _).set 4 _, hV.fr hset (fun g hg => ?_), fun g hg => ?_, (F5.out.alloc _).trans hset (fun b hb => .inr (by simp at hb; omega))⟩
              · have h : w5.heap.size = g := Option.some.inj hg
                simp; omega
              · have h : w5.heap.size = g := Option.some.inj hg
                omega
        case rest =>
          obtain ⟨us, ua, uc, hu3, hB, hV, hne, hF⟩ := hcut
          obtain ⟨w6, rfl⟩ : ∃ W, W = wc := ⟨_, rfl⟩
          clear v0 v1 v2 v3 u0 u1 u2 u3 c4 hfz BR5 F5
          have B6 := Lib.hid hB
          have V6 := Lib.hid hV
          have N6 := Lib.hid hne
          have F6 := Lib.hid hF
          clear hB hV hne hF
          have c0 := B6.out.cell_at (o := 0) rfl
          have c1 := B6.out.cell_at (o := 1) rfl
          have c2 := B6.out.cell_at (o := 2) rfl
          have c3 := B6.out.cell_at (o := 3) rfl
          have c4 := B6.out.cell_at (o := 4) rfl
          have hfz := B6.out.thawed
          go_wp2_with fail
          try simp only [Exit.inBlock, Exit.then]
          have hs := five_sets B6.out (.string (tA kk)) (.string (tK ll)) (.int .i64 (e.time % 16)) (.int .i64 0) (.slice ua us.length uc)
          refine ret_cell hs.1 rfl rfl Try.underlying79 rfl (by kernel_rfl) rfl ?_
          exact ⟨⟨tA kk, tK ll, e.time % 16, 0, ua, us.length, uc⟩, rfl, rfl, rfl, ⟨hu3, us, rfl, V6.out.fr hs.2 (fun g hg => by simpa using N6.out g hg)⟩, F6.out.trans hs.2 (fun b hb => .inr (by simp at hb; omega))⟩
end Go.Proofs.Ytcnoaflojojfkab.Evt
