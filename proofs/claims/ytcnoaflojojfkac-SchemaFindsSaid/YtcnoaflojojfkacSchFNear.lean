/- SchemaFinds: the types that it makes are few and small; it is true of all. No condition. -/
import Derived.Test.YtcnoaflojojfkacSchFPure
namespace Go.Proofs.Ytcnoaflojojfkac.SchF
open Go Go.Proofs.Ytcnoaflojojfkac.Vm
set_option linter.unusedVariables false
set_option linter.unusedSimpArgs false
set_option maxRecDepth 100000
theorem imin_nat (n m : Nat) : imin (n : Int) (m : Int) = ((min n m : Nat) : Int) := by rw [imin_eq]; omega
theorem tmod5 (n : Nat) : ∃ q : Nat, q < 5 ∧ Int.tmod (n : Int) (5 : Int) = (q : Int) :=
  ⟨n % 5, Nat.mod_lt _ (by omega), by rw [Int.tmod_eq_emod_of_nonneg (by omega)]; omega⟩
section
variable (p0 : List (ByteArray × List (ByteArray × Int))) (p1 : Int) (p3 : List ByteArray) (h5 : p3.length = 5)
include h5
theorem L18_1_step (p2 : List (ByteArray × List (ByteArray × Int))) (i : Nat) (hi : i < p0.length) (s : ByteArray) (j k : Nat) (hj : j < 4) (hjf : j < (p0.getD i zT).2.length) (acc : List (ByteArray × Int)) (ha : acc.length ≤ j) :
    ∃ f : ByteArray × Int, ∀ κ K, L18_1 (k + 1) κ p0 p1 p2 p3 (i : Int) (j : Int) s acc K = L18_1 k κ p0 p1 p2 p3 (i : Int) ((j + 1 : Nat) : Int) s (acc ++ [f]) K := by
  obtain ⟨q, hq, hqe⟩ := tmod5 ((p0.getD i zT).2.getD j zF).1.size
  have h8 : ∀ f : ByteArray × Int, decide ((acc.length + ([f] : List (ByteArray × Int)).length) * 24 ≤ 140737488355328) = true := fun f => decide_eq_true (by simp; omega)
  have h4 : decide ((j : Int) < (4 : Int)) = true := by simp; omega
  have hq5 : q < p3.length := by omega
  have hj5 : j < p3.length := by omega
  have hr := rng hi
  have hr2 := rng hjf
  have hr3 := rng hj5
  have hr4 : (decide ((0 : Int) ≤ Int.tmod (((p0.getD i zT).2.getD j zF).1.size : Int) (5 : Int)) && decide (Int.tmod (((p0.getD i zT).2.getD j zF).1.size : Int) (5 : Int) < (p3.length : Int))) = true := by rw [hqe]; exact rng hq5
  have hr5 : decide ((Int.tmod (((p0.getD i zT).2.getD j zF).1.size : Int) (5 : Int)).toNat < p3.length) = true := by rw [hqe]; exact decide_eq_true hq5
  by_cases b2 : ((bits .and .i64 p1 (15 : Int)) == (2 : Int)) = true <;> by_cases b3 : ((bits .and .i64 p1 (15 : Int)) == (3 : Int)) = true
  all_goals
    apply Exists.intro
    intro κ K
    rw [L18_1, if_pos hr]
    simp only [Int.toNat_natCast]
    rw [if_pos (lt_t hjf), if_pos h4, if_pos hr3, if_pos (decide_eq_true hj5), if_pos hr, if_pos hr2]
  · rw [if_pos b2, if_pos hr, if_pos hr2, if_pos b3, if_pos hr, if_pos hr2, if_pos hr4, if_pos hr5, if_pos (h8 _), wr hj (by omega)]
  · rw [if_pos b2, if_pos hr, if_pos hr2, if_neg b3, if_pos (h8 _), wr hj (by omega)]
  · rw [if_neg b2, if_pos b3, if_pos hr, if_pos hr2, if_pos hr4, if_pos hr5, if_pos (h8 _), wr hj (by omega)]
  · rw [if_neg b2, if_neg b3, if_pos (h8 _), wr hj (by omega)]
theorem L18_1_eq (p2 : List (ByteArray × List (ByteArray × Int))) (i : Nat) (hi : i < p0.length) (s : ByteArray) : ∀ (m j k : Nat) (acc : List (ByteArray × Int)), j + m = 4 → m + 1 ≤ k → acc.length ≤ j →
    ∃ c fs, fs.length ≤ 4 ∧ ∀ κ K, L18_1 k κ p0 p1 p2 p3 (i : Int) (j : Int) s acc K = K (c, fs) := by
  intro m
  induction m with
  | zero =>
    intro j k acc hj hk ha
    obtain ⟨k, rfl⟩ : ∃ k', k = k' + 1 := ⟨k - 1, by omega⟩
    refine ⟨j, acc, by omega, fun κ K => ?_⟩
    rw [L18_1, if_pos (rng hi)]
    have h4 : decide ((j : Int) < (4 : Int)) = false := by simp; omega
    by_cases hc : decide ((j : Int) < ((p0.getD (i : Int).toNat zT).2.length : Int)) = true
    · rw [if_pos hc, if_neg (by rw [h4]; simp)]
    · rw [if_neg hc]
  | succ m ih =>
    intro j k acc hj hk ha
    obtain ⟨k, rfl⟩ : ∃ k', k = k' + 1 := ⟨k - 1, by omega⟩
    by_cases hjf : j < (p0.getD i zT).2.length
    · obtain ⟨f, hf⟩ := L18_1_step p0 p1 p3 h5 p2 i hi s j k (by omega) hjf acc ha
      obtain ⟨c, fs, h1, h2⟩ := ih (j + 1) k (acc ++ [f]) (by omega) (by omega) (by simp; omega)
      exact ⟨c, fs, h1, fun κ K => (hf κ K).trans (h2 κ K)⟩
    · refine ⟨j, acc, by omega, fun κ K => ?_⟩
      rw [L18_1, if_pos (rng hi)]
      simp only [Int.toNat_natCast]
      have : decide ((j : Int) < ((p0.getD i zT).2.length : Int)) = false := by simp; simpa using hjf
      rw [if_neg (by rw [this]; simp)]
theorem L18_0_step (j k : Nat) (hk : 6 ≤ k) (hj : j < 5) (hjl : j < p0.length) (acc : List (ByteArray × List (ByteArray × Int))) (ha : acc.length ≤ j) :
    ∃ t : ByteArray × List (ByteArray × Int), t.2.length ≤ 4 ∧ ∀ κ K, L18_0 (k + 1) κ p0 p1 acc p3 (j : Int) K = L18_0 k κ p0 p1 (acc ++ [t]) p3 ((j + 1 : Nat) : Int) K := by
  obtain ⟨q, hq, hqe⟩ := tmod5 (p0.getD j zT).1.size
  have h8 : ∀ f : ByteArray × List (ByteArray × Int), decide ((acc.length + ([f] : List (ByteArray × List (ByteArray × Int))).length) * 40 ≤ 140737488355328) = true := fun f => decide_eq_true (by simp; omega)
  have h4 : decide ((j : Int) < (5 : Int)) = true := by simp; omega
  have hq5 : q < p3.length := by omega
  have hj5 : j < p3.length := by omega
  have hr := rng hjl
  have hr3 := rng hj5
  have hr4 : (decide ((0 : Int) ≤ Int.tmod ((p0.getD j zT).1.size : Int) (5 : Int)) && decide (Int.tmod ((p0.getD j zT).1.size : Int) (5 : Int) < (p3.length : Int))) = true := by rw [hqe]; exact rng hq5
  have hr5 : decide ((Int.tmod ((p0.getD j zT).1.size : Int) (5 : Int)).toNat < p3.length) = true := by rw [hqe]; exact decide_eq_true hq5
  have hm : (decide ((0 : Int) ≤ imin ((p0.getD j zT).1.size : Int) (18 : Int)) && decide (imin ((p0.getD j zT).1.size : Int) (18 : Int) ≤ ((p0.getD j zT).1.size : Int))) = true := by
    rw [show (18 : Int) = ((18 : Nat) : Int) from rfl, imin_nat]; exact rngE (Nat.min_le_left _ _)
  by_cases b2 : ((bits .and .i64 p1 (15 : Int)) == (0 : Int)) = true <;> by_cases b3 : ((bits .and .i64 p1 (15 : Int)) == (1 : Int)) = true
  · obtain ⟨c, fs, h1, h2⟩ := L18_1_eq p0 p1 p3 h5 acc j hjl ((p0.getD j zT).1.extract (0 : Int).toNat (imin ((p0.getD j zT).1.size : Int) (18 : Int)).toNat) 4 0 k [] (by omega) (by omega) (by simp)
    refine ⟨((p0.getD j zT).1.extract (0 : Int).toNat (imin ((p0.getD j zT).1.size : Int) (18 : Int)).toNat, fs), h1, fun κ K => ?_⟩
    rw [L18_0]
    simp only [Int.toNat_natCast]
    rw [if_pos (lt_t hjl), if_pos h4, if_pos hr3, if_pos (decide_eq_true hj5), if_pos b2, if_pos hr, if_pos hr4, if_pos hr5, if_pos b3, if_pos hr, if_pos hr, if_pos hm]
    refine (h2 κ _).trans ?_
    rw [if_pos (h8 _), wr hj (by omega)]
  · obtain ⟨c, fs, h1, h2⟩ := L18_1_eq p0 p1 p3 h5 acc j hjl (p3.getD (Int.tmod ((p0.getD j zT).1.size : Int) (5 : Int)).toNat ⟨#[]⟩) 4 0 k [] (by omega) (by omega) (by simp)
    refine ⟨(p3.getD (Int.tmod ((p0.getD j zT).1.size : Int) (5 : Int)).toNat ⟨#[]⟩, fs), h1, fun κ K => ?_⟩
    rw [L18_0]
    simp only [Int.toNat_natCast]
    rw [if_pos (lt_t hjl), if_pos h4, if_pos hr3, if_pos (decide_eq_true hj5), if_pos b2, if_pos hr, if_pos hr4, if_pos hr5, if_neg b3]
    refine (h2 κ _).trans ?_
    rw [if_pos (h8 _), wr hj (by omega)]
  · obtain ⟨c, fs, h1, h2⟩ := L18_1_eq p0 p1 p3 h5 acc j hjl ((p0.getD j zT).1.extract (0 : Int).toNat (imin ((p0.getD j zT).1.size : Int) (18 : Int)).toNat) 4 0 k [] (by omega) (by omega) (by simp)
    refine ⟨((p0.getD j zT).1.extract (0 : Int).toNat (imin ((p0.getD j zT).1.size : Int) (18 : Int)).toNat, fs), h1, fun κ K => ?_⟩
    rw [L18_0]
    simp only [Int.toNat_natCast]
    rw [if_pos (lt_t hjl), if_pos h4, if_pos hr3, if_pos (decide_eq_true hj5), if_neg b2, if_pos b3, if_pos hr, if_pos hr, if_pos hm]
    refine (h2 κ _).trans ?_
    rw [if_pos (h8 _), wr hj (by omega)]
  · obtain ⟨c, fs, h1, h2⟩ := L18_1_eq p0 p1 p3 h5 acc j hjl (p3.getD j ⟨#[]⟩) 4 0 k [] (by omega) (by omega) (by simp)
    refine ⟨(p3.getD j ⟨#[]⟩, fs), h1, fun κ K => ?_⟩
    rw [L18_0]
    simp only [Int.toNat_natCast]
    rw [if_pos (lt_t hjl), if_pos h4, if_pos hr3, if_pos (decide_eq_true hj5), if_neg b2, if_neg b3]
    refine (h2 κ _).trans ?_
    rw [if_pos (h8 _), wr hj (by omega)]
theorem L18_0_eq : ∀ (m j k : Nat) (acc : List (ByteArray × List (ByteArray × Int))), j + m = 5 → m + 7 ≤ k → acc.length ≤ j → (∀ t ∈ acc, t.2.length ≤ 4) →
    ∃ c l, l.length ≤ 5 ∧ (∀ t ∈ l, t.2.length ≤ 4) ∧ ∀ κ K, L18_0 k κ p0 p1 acc p3 (j : Int) K = K (l, c) := by
  intro m
  induction m with
  | zero =>
    intro j k acc hj hk ha hs
    obtain ⟨k, rfl⟩ : ∃ k', k = k' + 1 := ⟨k - 1, by omega⟩
    refine ⟨j, acc, by omega, hs, fun κ K => ?_⟩
    rw [L18_0]
    have h4 : decide ((j : Int) < (5 : Int)) = false := by simp; omega
    by_cases hc : decide ((j : Int) < (p0.length : Int)) = true
    · rw [if_pos hc, if_neg (by rw [h4]; simp)]
    · rw [if_neg hc]
  | succ m ih =>
    intro j k acc hj hk ha hs
    obtain ⟨k, rfl⟩ : ∃ k', k = k' + 1 := ⟨k - 1, by omega⟩
    by_cases hjf : j < p0.length
    · obtain ⟨t, ht, hf⟩ := L18_0_step p0 p1 p3 h5 j k (by omega) (by omega) hjf acc ha
      obtain ⟨c, l, h1, h2, h3⟩ := ih (j + 1) k (acc ++ [t]) (by omega) (by omega) (by simp; omega) (fun x hx => by
        rcases List.mem_append.1 hx with h | h
        · exact hs x h
        · simp at h; rw [h]; exact ht)
      exact ⟨c, l, h1, h2, fun κ K => (hf κ K).trans (h3 κ K)⟩
    · refine ⟨j, acc, by omega, hs, fun κ K => ?_⟩
      rw [L18_0]
      have : decide ((j : Int) < (p0.length : Int)) = false := by simp; omega
      rw [if_neg (by rw [this]; simp)]
end
theorem F4_eq (a0 : List (ByteArray × List (ByteArray × Int))) (a1 : Int) (κ : Bool → Option Res) : F4 121 a0 a1 κ = κ true := by
  obtain ⟨c, l, h1, h2, h3⟩ := L18_0_eq a0 a1 ([(⟨#[65]⟩ : ByteArray), (⟨#[66]⟩ : ByteArray), (⟨#[67]⟩ : ByteArray), (⟨#[68]⟩ : ByteArray), (⟨#[69]⟩ : ByteArray)] : List ByteArray) rfl 5 0 119 [] (by omega) (by omega) (by simp) (by simp)
  refine tail_eq l (by omega) (fun i => ?_) a0 a1 κ (fun κ' => ?_)
  · rw [List.getD_eq_getElem?_getD]
    cases hi : l[i]? with
    | none => simp
    | some t => have := h2 t (List.mem_of_getElem? hi); simp; omega
  · rw [F18]
    exact h3 κ' _
end Go.Proofs.Ytcnoaflojojfkac.SchF
