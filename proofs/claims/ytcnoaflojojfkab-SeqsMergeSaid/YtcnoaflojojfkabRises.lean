/- seqs.Rises on stamps. No condition. -/
import Derived.Test.YtcnoaflojojfkabStamp
import Derived.Test.YtcnoaflojojfkabPlanTree
namespace Go.Proofs.Ytcnoaflojojfkab.Stamp
open Go.RowKit
set_option linter.unusedVariables false
set_option linter.unusedSimpArgs false
set_option maxRecDepth 100000
set_option maxHeartbeats 4000000 in
theorem rises_any (l : List St) (a : Option Addr) (c : Nat) (w : World) (hR : Reads w 3 (.slice a l.length c) l.length (l.flatMap St.cells)) (hl : l.length ≤ 1000) :
    Calls Try.prog 38 #[.slice a l.length c] w fun e w' => e = .returned (.bool (risesM l)) ∧ Fr [] w w' := by
  have HR : Hid (Reads w 3 (.slice a l.length c) l.length (l.flatMap St.cells)) := hR
  clear hR
  go_enter Try.func38, Try.ntmps38
  go_wp2_with (fail)
  go_loopw [3] (fun v3 wr => ∃ k : Nat, v3 = .int .i64 ((k : Int) + 1) ∧ risesM (l.drop k) = risesM l ∧ k ≤ l.length ∧ Fr [] w wr) (fun v3 _ => l.length + 1 - (intOf v3).toNat)
  case atStart => exact ⟨0, rfl, rfl, Nat.zero_le _, Fr.refl _ _⟩
  case round =>
    obtain ⟨k, rfl, hk, hkl, hF⟩ := hrel
    have HK := Lib.hid hk
    have HF := Lib.hid hF
    clear hk hF
    by_cases h1 : k + 1 < l.length
    · obtain ⟨x, hx⟩ : ∃ e, l[k]? = some e := ⟨l[k]'(by omega), List.getElem?_eq_getElem _⟩
      obtain ⟨y, hy⟩ : ∃ e, l[k + 1]? = some e := ⟨l[k + 1], by simp [h1]⟩
      obtain ⟨b, o, rfl⟩ := HR.out.rec_addr St.len (by omega) hx
      have x0 : wr.cell? ⟨b, o + k * 3, none⟩ = some (.int .i64 x.t) := by have := (HR.out.fr0 HF.out).rec St.len hx (k := 0) rfl; simpa using this
      have x1 : wr.cell? ⟨b, o + k * 3 + 1, none⟩ = some (.int .i64 x.s) := (HR.out.fr0 HF.out).rec St.len hx rfl
      have x2 : wr.cell? ⟨b, o + k * 3 + 2, none⟩ = some (.int .i64 x.a) := (HR.out.fr0 HF.out).rec St.len hx rfl
      have y0 : wr.cell? ⟨b, o + (k + 1) * 3, none⟩ = some (.int .i64 y.t) := by have := (HR.out.fr0 HF.out).rec St.len hy (k := 0) rfl; simpa using this
      have y1 : wr.cell? ⟨b, o + (k + 1) * 3 + 1, none⟩ = some (.int .i64 y.s) := (HR.out.fr0 HF.out).rec St.len hy rfl
      have y2 : wr.cell? ⟨b, o + (k + 1) * 3 + 2, none⟩ = some (.int .i64 y.a) := (HR.out.fr0 HF.out).rec St.len hy rfl
      have HS := Lib.hid (risesM_drop hx hy)
      have hi1 : (k : Int) + 1 < (l.length : Int) := by omega
      have hi0 : (k : Int) < (l.length : Int) := by omega
      have hwk : IntKind.i64.wrap (k : Int) = (k : Int) := by rw [IntKind.wrap_i64]; omega
      have hi4 : 0 ≤ (k : Int) + 1 := by omega
      have hi2 : (k : Int) + 1 - 1 = (k : Int) := by omega
      have hi3 : ((k : Int) + 1).toNat = k + 1 := by omega
      clear hx hy
      go_upto_region 4 with (fail)
      refine wp_region_tree_np (fun W => W.cell? ⟨b, o + k * 3, none⟩ = some (.int .i64 x.t) ∧ W.cell? ⟨b, o + k * 3 + 1, none⟩ = some (.int .i64 x.s) ∧ W.cell? ⟨b, o + k * 3 + 2, none⟩ = some (.int .i64 x.a) ∧ W.cell? ⟨b, o + (k + 1) * 3, none⟩ = some (.int .i64 y.t) ∧ W.cell? ⟨b, o + (k + 1) * 3 + 1, none⟩ = some (.int .i64 y.s) ∧ W.cell? ⟨b, o + (k + 1) * 3 + 2, none⟩ = some (.int .i64 y.a)) (.on 0 (.on 1 (.on 2 (.on 3 (.on 4 (.on 5 (.on 6 (.on 7 (.on 8 (.on 9 (.one 10 .nil))))))))))) (by kernel_rfl) (by kernel_rfl) ⟨x0, x1, x2, y0, y1, y2⟩ ?_
      iterate 10 (first | (refine ht_on (o := ?_) (v := ?_) ?_ ?_ (fun w hSw => ?_) ?_; rotate_left 2; (focus ((simp only [List.getElem?_toArray, List.getElem?_cons_succ, List.getElem?_cons_zero]); (try rfl); done)); (focus (rfl)); (focus (((try obtain ⟨s0, s1, s2, s3, s4, s5⟩ := hSw); (try dsimp only at hSw); go_simp; (try with_reducible rfl)); done)); simp only [Act.put, List.setIfInBounds_toArray, List.set_cons_zero, List.set_cons_succ]) | (refine ht_off_light (o := ?_) ?_ ?_ ?_; rotate_left 1; (focus ((simp only [List.getElem?_toArray, List.getElem?_cons_succ, List.getElem?_cons_zero]); (try rfl); done)); (focus (rfl)); simp only [Act.put, List.setIfInBounds_toArray, List.set_cons_zero, List.set_cons_succ]))
      refine ht_one (o := ?_) ?_ ?_ (fun K hK => ?_)
      rotate_left 1
      (focus ((simp only [List.getElem?_toArray, List.getElem?_cons_succ, List.getElem?_cons_zero]); (try rfl); done))
      focus (rfl)
      go_simp
      refine (less_any y x _).mono ?_
      rintro e w2 ⟨rfl, hf⟩
      have F2 : Hid (Fr [] w w2) := Lib.hid ((HF.out.drew).trans0 hf)
      refine hK.out _ _ ⟨hf.cell (by exact x0) (by simp), hf.cell (by exact x1) (by simp), hf.cell (by exact x2) (by simp), hf.cell (by exact y0) (by simp), hf.cell (by exact y1) (by simp), hf.cell (by exact y2) (by simp)⟩ (fun _ => ?_)
      try simp only [Act.put, List.setIfInBounds_toArray, List.set_cons_zero, List.set_cons_succ]
      refine ht_done_np ?_
      clear hf
      cases hb : sless y x with
      | true =>
        have HE : Hid (false = risesM l) := by have h1 := HS.out; have h2 := HK.out; rw [hb] at h1; rw [← h2, h1]; exact rfl
        clear hb
        go_wp2_with fail
        go_ret
        exact ⟨ret_bool HE.out, F2.out⟩
      | false =>
        have HE : Hid (risesM (l.drop (k + 1)) = risesM l) := by have h1 := HS.out; have h2 := HK.out; rw [hb] at h1; rw [← h2, h1]; exact rfl
        clear hb
        go_wp2_with fail
        go_roundw
        case rel => exact ⟨k + 1, by go_num, HE.out, by omega, F2.out⟩
        case measure => simp [intOf]; omega
    · have HE : Hid (true = risesM l) := by have := HK.out; rw [risesM_end (by omega)] at this; exact this
      go_wp2_with fail
      go_ret
      exact ⟨ret_bool HE.out, HF.out⟩
end Go.Proofs.Ytcnoaflojojfkab.Stamp
