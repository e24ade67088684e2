/- MsgGoes: the messages that it makes are few and small; it is true of all. No condition. -/
import Derived.Test.YtcnoaflojojfkaaMsgGSame
namespace Go.Proofs.Ytcnoaflojojfkaa.MsgG
open Go Go.Proofs.Ytcnoaflojojfkaa.Vm
set_option linter.unusedVariables false
set_option linter.unusedSimpArgs false
set_option maxRecDepth 100000
theorem F81_eq (k : Nat) (a : Evt) : ∃ ev : Evt, ev.2.2.2.2.length ≤ 3 ∧ ∀ κ, F81 (k + 1) a κ = κ ev := by
  have hT : (decide ((0 : Int) ≤ (Int.tmod (bits .and .i64 a.2.2.2.1 (255 : Int)) (3 : Int))) && decide ((Int.tmod (bits .and .i64 a.2.2.2.1 (255 : Int)) (3 : Int)) < (([(⟨#[65]⟩ : ByteArray), (⟨#[66]⟩ : ByteArray), (⟨#[67]⟩ : ByteArray)] : List ByteArray).length : Int))) = true := by
    rw [and255, Int.tmod_eq_emod_of_nonneg (by omega)]
    show (decide ((0 : Int) ≤ a.2.2.2.1 % 256 % 3) && decide (a.2.2.2.1 % 256 % 3 < 3)) = true
    simp; omega
  have hS : (decide ((0 : Int) ≤ (Int.tmod (a.2.1.size : Int) (3 : Int))) && decide ((Int.tmod (a.2.1.size : Int) (3 : Int)) < (([(⟨#[107]⟩ : ByteArray), (⟨#[108]⟩ : ByteArray), (⟨#[109]⟩ : ByteArray)] : List ByteArray).length : Int))) = true := by
    rw [Int.tmod_eq_emod_of_nonneg (by omega)]
    show (decide ((0 : Int) ≤ (a.2.1.size : Int) % 3) && decide ((a.2.1.size : Int) % 3 < 3)) = true
    simp; omega
  by_cases h0 : decide ((a.2.2.2.2.length : Int) > (0 : Int)) = true
  · have h0' : decide ((0 : Int) < (a.2.2.2.2.length : Int)) = true := h0
    by_cases hb : (((a.2.2.2.2.getD (0 : Int).toNat zV).2).2).2 = true
    · by_cases h2 : ((Int.tmod (bits .and .i64 a.2.2.2.1 (255 : Int)) (3 : Int)) == (2 : Int)) = true
      · apply Exists.intro
        refine And.symm ⟨fun κ => ?_, ?_⟩
        · rw [F81, if_pos h0, if_pos h0', if_pos h0', if_pos hb, if_pos hT, if_pos hS, if_pos h2]
        · exact Nat.le_refl 3
      · apply Exists.intro
        refine And.symm ⟨fun κ => ?_, ?_⟩
        · rw [F81, if_pos h0, if_pos h0', if_pos h0', if_pos hb, if_pos hT, if_pos hS, if_neg h2]
        · exact Nat.le_succ 2
    · by_cases h2 : ((Int.tmod (bits .and .i64 a.2.2.2.1 (255 : Int)) (3 : Int)) == (2 : Int)) = true
      · apply Exists.intro
        refine And.symm ⟨fun κ => ?_, ?_⟩
        · rw [F81, if_pos h0, if_pos h0', if_pos h0', if_neg hb, if_pos hT, if_pos hS, if_pos h2]
        · exact Nat.le_refl 3
      · apply Exists.intro
        refine And.symm ⟨fun κ => ?_, ?_⟩
        · rw [F81, if_pos h0, if_pos h0', if_pos h0', if_neg hb, if_pos hT, if_pos hS, if_neg h2]
        · exact Nat.le_succ 2
  · by_cases h2 : ((Int.tmod (bits .and .i64 a.2.2.2.1 (255 : Int)) (3 : Int)) == (2 : Int)) = true
    · apply Exists.intro
      refine And.symm ⟨fun κ => ?_, ?_⟩
      · rw [F81, if_neg h0, if_pos hT, if_pos hS, if_pos h2]
      · exact Nat.le_refl 3
    · apply Exists.intro
      refine And.symm ⟨fun κ => ?_, ?_⟩
      · rw [F81, if_neg h0, if_pos hT, if_pos hS, if_neg h2]
      · exact Nat.le_succ 2
theorem L60_step (p0 : List Msg) (j k : Nat) (hj : j < 20) (hjl : j < p0.length) (acc : List Msg) (ha : acc.length ≤ j) :
    ∃ m : Msg, Small m ∧ ∀ κ K, L60_0 (k + 2) κ p0 acc (j : Int) K = L60_0 (k + 1) κ p0 (acc ++ [m]) ((j + 1 : Nat) : Int) K := by
  have h20 : decide ((j : Int) < (20 : Int)) = true := by simp; omega
  have hr := rng hjl
  have h8 : ∀ m : Msg, decide ((acc.length + ([m] : List Msg).length) * 152 ≤ 140737488355328) = true := fun m => decide_eq_true (by simp; omega)
  have hsz : ((p0.getD j zM).2.2.1.2.1.extract (0 : Int).toNat (imin ((p0.getD j zM).2.2.1.2.1.size : Int) (5 : Int)).toNat).size ≤ 5 := by
    rw [ByteArray.size_extract, imin_eq]; omega
  have h107 : (⟨#[107]⟩ : ByteArray).size = 1 := rfl
  have hm : (decide ((0 : Int) ≤ (imin ((p0.getD j zM).2.2.1.2.1.size : Int) (5 : Int))) && decide ((imin ((p0.getD j zM).2.2.1.2.1.size : Int) (5 : Int)) ≤ ((p0.getD j zM).2.2.1.2.1.size : Int))) = true := by
    rw [imin_eq]; simp; omega
  have hs : decide (((p0.getD j zM).2.2.1.2.1.extract (0 : Int).toNat (imin ((p0.getD j zM).2.2.1.2.1.size : Int) (5 : Int)).toNat).size + (⟨#[107]⟩ : ByteArray).size ≤ 9223372036854775807) = true := decide_eq_true (by omega)
  by_cases hk : ((IntKind.wrap .i64 ((bits .and .i64 ((p0.getD j zM).1) (3 : Int)) + (1 : Int))) == (1 : Int)) = true
  · obtain ⟨ev, hev, h81⟩ := F81_eq k (p0.getD j zM).2.2.1
    apply Exists.intro
    refine And.symm ⟨fun κ K => ?_, ?_⟩
    · rw [L60_0, if_pos (lt_t hjl), if_pos h20, if_pos hr, Int.toNat_natCast, if_pos hk, if_pos hr]
      refine (h81 _).trans ?_
      rw [if_pos hr, if_pos hr, if_pos hm, if_pos hs, if_pos (h8 _), wr hj (by omega)]
    · refine ⟨?_, hev, rfl⟩
      show ((p0.getD j zM).2.2.1.2.1.extract (0 : Int).toNat (imin ((p0.getD j zM).2.2.1.2.1.size : Int) (5 : Int)).toNat ++ (⟨#[107]⟩ : ByteArray)).size ≤ 6
      rw [ByteArray.size_append]; omega
  · apply Exists.intro
    refine And.symm ⟨fun κ K => ?_, ?_⟩
    · rw [L60_0, if_pos (lt_t hjl), if_pos h20, if_pos hr, Int.toNat_natCast, if_neg hk, if_pos hr, if_pos (h8 _), wr hj (by omega)]
    · exact ⟨Nat.zero_le _, Nat.zero_le _, rfl⟩
theorem L60_eq (p0 : List Msg) : ∀ (m j k : Nat) (acc : List Msg), j + m = 20 → m + 3 ≤ k → acc.length ≤ j → (∀ t ∈ acc, Small t) →
    ∃ c l, l.length ≤ 20 ∧ (∀ t ∈ l, Small t) ∧ ∀ κ K, L60_0 k κ p0 acc (j : Int) K = K (l, c) := by
  intro m
  induction m with
  | zero =>
    intro j k acc hj hk ha hs
    obtain ⟨k, rfl⟩ : ∃ k', k = k' + 1 := ⟨k - 1, by omega⟩
    refine ⟨j, acc, by omega, hs, fun κ K => ?_⟩
    have h4 : ¬ decide ((j : Int) < (20 : Int)) = true := by simp; omega
    rw [L60_0]
    by_cases hc : decide ((j : Int) < (p0.length : Int)) = true
    · rw [if_pos hc, if_neg h4]
    · rw [if_neg hc]
  | succ m ih =>
    intro j k acc hj hk ha hs
    obtain ⟨k, rfl⟩ : ∃ k', k = k' + 2 := ⟨k - 2, by omega⟩
    by_cases hjf : j < p0.length
    · obtain ⟨t, ht, hf⟩ := L60_step p0 j k (by omega) hjf acc ha
      obtain ⟨c, l, h1, h2, h3⟩ := ih (j + 1) (k + 1) (acc ++ [t]) (by omega) (by omega) (by simp; omega) (fun x hx => by
        rcases List.mem_append.1 hx with h | h
        · exact hs x h
        · simp at h; rw [h]; exact ht)
      exact ⟨c, l, h1, h2, fun κ K => (hf κ K).trans (h3 κ K)⟩
    · refine ⟨j, acc, by omega, hs, fun κ K => ?_⟩
      have hc : ¬ decide ((j : Int) < (p0.length : Int)) = true := by simp; omega
      rw [L60_0, if_neg hc]
theorem F14_eq (a0 : List Msg) (n : Int) (κ : Bool → Option Res) : F14 201 a0 n κ = κ true := by
  obtain ⟨c, l, h1, h2, h3⟩ := L60_eq a0 20 0 199 [] (by omega) (by omega) (by simp) (fun t ht => by cases ht)
  refine F14_tail l (fun i => ?_) h1 a0 n κ (fun κ' => ?_)
  · rw [List.getD_eq_getElem?_getD]
    cases hi : l[i]? with
    | none => exact ⟨Nat.zero_le _, Nat.zero_le _, rfl⟩
    | some t => exact h2 t (List.mem_of_getElem? hi)
  · rw [F60]
    exact h3 κ' _
end Go.Proofs.Ytcnoaflojojfkaa.MsgG
