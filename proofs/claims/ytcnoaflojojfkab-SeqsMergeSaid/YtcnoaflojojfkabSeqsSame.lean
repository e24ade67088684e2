/- Are two lists of numbers alike? What the own function of the law answers. No condition. -/
import Derived.Test.YtcnoaflojojfkabView
namespace Go.Proofs.Ytcnoaflojojfkab.Seqs
open Go.RowKit
set_option linter.unusedVariables false
set_option linter.unusedSimpArgs false
set_option maxRecDepth 100000

theorem at_reads {w : World} {v : Value} {n k : Nat} {xs : List Int} {x : Int} (h : Reads w 1 v n (xs.map (Value.int .i64))) (hk : xs[k]? = some x) :
    ∃ b o c, v = .slice (some ⟨b, o, none⟩) n c ∧ n ≤ c ∧ w.cell? ⟨b, o + k, none⟩ = some (.int .i64 x) := by
  obtain ⟨hl, a, c, rfl, hc, h | ⟨b, o, rfl, h⟩⟩ := h
  · rw [List.map_eq_nil_iff] at h; rw [h] at hk; cases hk
  · exact ⟨b, o, c, rfl, hc, h k _ (by rw [List.getElem?_map, hk]; rfl)⟩
theorem len_reads {w : World} {v : Value} {n : Nat} {xs : List Int} (h : Reads w 1 v n (xs.map (Value.int .i64))) : n = xs.length := by
  have := h.1; simp at this; exact this.symm

set_option maxHeartbeats 1000000 in
theorem same_any (va vb : Value) (za zb : List Int) (w : World) (ha : Reads w 1 va za.length (za.map (Value.int .i64))) (hb : Reads w 1 vb zb.length (zb.map (Value.int .i64))) (hla : za.length ≤ 140737488351232) :
    Calls Try.prog 33 #[va, vb] w fun e w' => e = .returned (.bool (decide (za = zb))) ∧ ∃ k, w' = w.drewN k := by
  obtain ⟨_, aa, ca, rfl, hca, _⟩ := id ha
  obtain ⟨_, ab, cb, rfl, hcb, _⟩ := id hb
  have HA := Lib.hid ha
  have HB := Lib.hid hb
  clear ha hb
  by_cases hl : za.length = zb.length
  · have hq : ((za.length : Int) != zb.length) = false := by rw [bne_eq_false_iff_eq]; omega
    have HL := Lib.hid hl
    clear hl
    go_enter Try.func33, Try.ntmps33
    go_wp2_with fail
    go_loopw [5] (fun v wr => ∃ k : Nat, k ≤ za.length ∧ v = .int .i64 k ∧ za.take k = zb.take k ∧ ∃ d, wr = w.drewN d) (fun v _ => za.length - (intOf v).toNat)
    case atStart => exact ⟨0, Nat.zero_le _, rfl, rfl, 0, rfl⟩
    case round =>
      obtain ⟨k, hk, rfl, ht, d, rfl⟩ := hrel
      have HT := Lib.hid ht
      clear ht
      by_cases hlt : k < za.length
      · obtain ⟨x, hx⟩ : ∃ x, za[k]? = some x := ⟨za[k], List.getElem?_eq_getElem _⟩
        have hlb : k < zb.length := by rw [← HL.out]; exact hlt
        obtain ⟨y, hy⟩ : ∃ y, zb[k]? = some y := ⟨zb[k], List.getElem?_eq_getElem _⟩
        obtain ⟨b1, o1, c1, e1, _, h1⟩ := at_reads HA.out hx
        obtain ⟨b2, o2, c2, e2, _, h2⟩ := at_reads HB.out hy
        simp only [Value.slice.injEq] at e1 e2
        obtain ⟨rfl, _, rfl⟩ := e1
        obtain ⟨rfl, _, rfl⟩ := e2
        have HX := Lib.hid hx
        have HY := Lib.hid hy
        clear hx hy
        have i0 : (0 : Int) ≤ k := by omega
        have i1 : (k : Int) < za.length := by omega
        have i2 : (k : Int) < zb.length := by omega
        by_cases hxy : x = y
        · subst hxy
          have hne : (x != x) = false := by simp
          go_upto_region 6 with (fail)
          go_quiet (fail)
          go_wp2
          go_roundw
          case rel => exact ⟨k + 1, by omega, by go_num, by rw [List.take_add_one, List.take_add_one, HT.out, HX.out, HY.out], _, by first | rfl | (rw [World.drewN_drewN]; done) | exact (World.drewN_drewN _ _ _)⟩
          case measure => simp [intOf]; omega
        · have hne : (x != y) = true := by rw [bne_iff_ne]; exact hxy
          have HN := Lib.hid hxy
          clear hxy
          go_upto_region 6 with (fail)
          go_quiet (fail)
          go_wp2
          go_ret
          exact ⟨ret_bool (Eq.symm (decide_eq_false (fun e => HN.out (by have := HX.out; rw [e, HY.out] at this; exact (Option.some.inj this).symm)))), _, by first | rfl | exact (World.drewN_drewN _ _ _)⟩
      · obtain rfl : k = za.length := by omega
        go_wp2
        go_ret
        refine ⟨ret_bool (Eq.symm (decide_eq_true ?_)), _, rfl⟩
        have := HT.out
        rwa [List.take_of_length_le (Nat.le_refl _), List.take_of_length_le (by rw [HL.out]; exact Nat.le_refl _)] at this
  · have hq : ((za.length : Int) != zb.length) = true := by rw [bne_iff_ne]; omega
    have HL := Lib.hid hl
    clear hl
    go_enter Try.func33, Try.ntmps33
    go_wp2
    go_ret
    exact ⟨ret_bool (Eq.symm (decide_eq_false (fun e => HL.out (by rw [e])))), 0, rfl⟩
end Go.Proofs.Ytcnoaflojojfkab.Seqs
