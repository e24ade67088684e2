/- The pure side of 'MarkGoes': a mark goes on to later times alone; for every list and every time. -/
import Derived.Test.YtcnoaflojojfkaaPMarkGoesx2
namespace Go.Proofs.Ytcnoaflojojfkaa.Pure
open Go.RowKit Go.Proofs.Ytcnoaflojojfkaa.PMarkGoes Go.Proofs.YtcnoaflojojfkaaW.PrintWords Go.Proofs.YtcnoaflojojfkaaW.PrintLast

theorem wrap_small {x : Int} (h0 : -9223372036854775808 ≤ x) (h1 : x ≤ 9223372036854775807) : wrap64 x = x := by
  unfold wrap64
  omega

theorem at_of (a : Int) (h0 : -1 ≤ a) (h1 : a ≤ 1099511627776) : mark_Mark_At.f (a + 1) = some a := by
  unfold mark_Mark_At.f
  rw [wrap_small (by omega) (by omega)]
  congr 1; omega

theorem late_of (a t : Int) (h0 : -1 ≤ a) (h1 : a ≤ 1099511627776) : mark_Mark_Late.f (a + 1) t = some (decide (t ≤ a)) := by
  unfold mark_Mark_Late.f
  rw [at_of a h0 h1]; rfl

theorem to_of (a t : Int) (h0 : -1 ≤ a) (h1 : a ≤ 1099511627776) : mark_Mark_To.f (a + 1) t =
    if t < 0 ∨ t > 1099511627776 then some (a + 1, 12) else if t ≤ a then some (a + 1, 7) else some (t + 1, 0) := by
  unfold mark_Mark_To.f num_Time.f
  by_cases c0 : t < 0
  · rw [if_neg (by omega), if_pos (.inl c0)]; rfl
  · rw [if_pos (by omega)]
    by_cases c1 : t > 1099511627776
    · rw [if_pos (.inr c1)]
      simp only [Option.bind_some]
      rw [if_neg (by simp; omega)]
    · rw [if_neg (by omega)]
      simp only [Option.bind_some]
      rw [if_pos (by simp; omega), at_of a h0 h1]
      simp only [Option.bind_some]
      rw [wrap_small (by omega) (by omega)]

theorem awake_true : lamplighterlaw27_awake.f = some true := by
  have e0 : mark_Mark_At.f 0 = some (-1) := by have := at_of (-1) (by omega) (by omega); simpa using this
  have e1 : mark_Mark_To.f 0 5 = some (6, 0) := by have := to_of (-1) 5 (by omega) (by omega); simpa using this
  have e2 : mark_Mark_To.f 6 5 = some (6, 7) := by have := to_of 5 5 (by omega) (by omega); simpa using this
  have e3 : mark_Mark_At.f 6 = some 5 := by have := at_of 5 (by omega) (by omega); simpa using this
  have e4 : mark_Mark_Late.f 6 5 = some true := by have := late_of 5 5 (by omega) (by omega); simpa using this
  have e5 : mark_Mark_Late.f 6 6 = some false := by have := late_of 5 6 (by omega) (by omega); simpa using this
  unfold lamplighterlaw27_awake.f
  simp only [e0, e1, e2, e3, e4, e5, Option.bind_some]
  rfl

theorem j5_of (l0 : List Int) (a1 a i x : Int) (h0 : -1 ≤ a) (h1 : a ≤ 1099511627776) (k : Nat) (h : lamplighterlaw27_MarkGoes.l0 k l0 a1 a (wrap64 (i + 1)) (a + 1) = some true) :
    lamplighterlaw27_MarkGoes.j5 (k + 1) l0 a1 a i x (a + 1) = some true := by
  simp only [lamplighterlaw27_MarkGoes.j5]
  rw [at_of a h0 h1, late_of a a1 h0 h1, late_of a x h0 h1]
  simp only [Option.bind_some, bne_self_eq_false, Bool.false_eq_true, if_false, if_true]
  exact h

theorem goes (l0 : List Int) (a1 : Int) (hl : l0.length * 8 ≤ 140737488351232) (d : Nat) : ∀ (i a : Int), 0 ≤ i → i ≤ l0.length → (l0.length : Int) - i = d → -1 ≤ a → a ≤ 1099511627776 →
    ∃ k, lamplighterlaw27_MarkGoes.l0 k l0 a1 a i (a + 1) = some true := by
  induction d with
  | zero =>
    intro i a h0 h1 hd ha0 ha1
    refine ⟨2, ?_⟩
    simp only [lamplighterlaw27_MarkGoes.l0]
    rw [if_neg (by omega)]
    simp only [lamplighterlaw27_MarkGoes.j1]
    rw [if_neg (by decide), awake_true]; rfl
  | succ d ih =>
    intro i a h0 h1 hd ha0 ha1
    have hw : wrap64 (i + 1) = i + 1 := wrap_small (by omega) (by omega)
    have hlt : i < (l0.length : Int) := by omega
    by_cases h30 : i < 30
    · have key : ∀ x : Int, ∃ k, lamplighterlaw27_MarkGoes.j2 k l0 a1 a i x (a + 1) = some true := by
        intro x
        by_cases c0 : x < 0 ∨ x > 1099511627776
        · obtain ⟨k, hk⟩ := ih (i + 1) a (by omega) (by omega) (by omega) ha0 ha1
          refine ⟨k + 4, ?_⟩
          simp only [lamplighterlaw27_MarkGoes.j2]
          rw [to_of a x ha0 ha1, if_pos c0]
          simp only [Option.bind_some]
          have e3 : lamplighterlaw27_MarkGoes.j3 (k + 3) l0 a1 a i x 12 0 true (a + 1) = some true := by
            simp only [lamplighterlaw27_MarkGoes.j3, if_true, lamplighterlaw27_MarkGoes.j4]
            rw [if_neg (by decide)]
            exact j5_of l0 a1 a i x ha0 ha1 k (by rw [hw]; exact hk)
          by_cases c1 : x < 0
          · rw [if_pos c1]; exact e3
          · rw [if_neg c1, decide_eq_true (by omega)]; exact e3
        · have cb : ¬ x < 0 := by omega
          have cd : decide (x > 1099511627776) = false := by simp; omega
          by_cases c1 : x ≤ a
          · obtain ⟨k, hk⟩ := ih (i + 1) a (by omega) (by omega) (by omega) ha0 ha1
            refine ⟨k + 4, ?_⟩
            simp only [lamplighterlaw27_MarkGoes.j2]
            rw [to_of a x ha0 ha1, if_neg c0, if_pos c1]
            simp only [Option.bind_some]
            rw [if_neg cb, cd]
            simp only [lamplighterlaw27_MarkGoes.j3, Bool.false_eq_true, if_false]
            rw [if_pos c1]
            simp only [lamplighterlaw27_MarkGoes.j4, if_true]
            rw [if_neg (by decide)]
            exact j5_of l0 a1 a i x ha0 ha1 k (by rw [hw]; exact hk)
          · obtain ⟨k, hk⟩ := ih (i + 1) x (by omega) (by omega) (by omega) (by omega) (by omega)
            refine ⟨k + 4, ?_⟩
            simp only [lamplighterlaw27_MarkGoes.j2]
            rw [to_of a x ha0 ha1, if_neg c0, if_neg c1]
            simp only [Option.bind_some]
            rw [if_neg cb, cd]
            simp only [lamplighterlaw27_MarkGoes.j3, Bool.false_eq_true, if_false]
            rw [if_neg c1]
            simp only [lamplighterlaw27_MarkGoes.j4, if_true]
            exact j5_of l0 a1 x i x (by omega) (by omega) k (by rw [hw]; exact hk)
      by_cases cb : (Go.bits .and .i64 i 3) > 0
      · obtain ⟨k, hk⟩ := key (Go.bits .and .i64 (rd l0 i) 63)
        refine ⟨k + 2, ?_⟩
        simp only [lamplighterlaw27_MarkGoes.l0]
        rw [if_pos hlt, decide_eq_true h30]
        simp only [lamplighterlaw27_MarkGoes.j1, if_true]
        rw [if_pos h0, if_pos hlt, if_pos cb]; exact hk
      · obtain ⟨k, hk⟩ := key (rd l0 i)
        refine ⟨k + 2, ?_⟩
        simp only [lamplighterlaw27_MarkGoes.l0]
        rw [if_pos hlt, decide_eq_true h30]
        simp only [lamplighterlaw27_MarkGoes.j1, if_true]
        rw [if_pos h0, if_pos hlt, if_neg cb]; exact hk
    · refine ⟨2, ?_⟩
      simp only [lamplighterlaw27_MarkGoes.l0]
      rw [if_pos hlt, decide_eq_false h30]
      simp only [lamplighterlaw27_MarkGoes.j1]
      rw [if_neg (by decide), awake_true]; rfl

theorem MarkGoes : lamplighterlaw27_MarkGoes.Pure := by
  intro l0 a1 _ hl _ _
  obtain ⟨k, hk⟩ := goes l0 a1 hl l0.length 0 (-1) (by omega) (by omega) (by omega) (by omega) (by omega)
  exact ⟨k, hk⟩

end Go.Proofs.Ytcnoaflojojfkaa.Pure
