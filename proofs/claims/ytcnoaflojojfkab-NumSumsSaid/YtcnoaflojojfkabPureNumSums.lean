/- The pure side of 'NumSums': sums and differences are told where they are of 64 bits, and nowhere else; for every two numbers. -/
import Derived.Test.YtcnoaflojojfkabPNumSumsx3
namespace Go.Proofs.Ytcnoaflojojfkab.Pure
open Go.RowKit Go.Proofs.Ytcnoaflojojfkab.PNumSums Go.Proofs.YtcnoaflojojfkabW.PrintWords Go.Proofs.YtcnoaflojojfkabW.PrintLast

theorem wrap_small {x : Int} (h0 : -9223372036854775808 ≤ x) (h1 : x ≤ 9223372036854775807) : wrap64 x = x := by
  unfold wrap64
  omega

/-- of 64 bits -/
abbrev Is64 (x : Int) : Prop := -9223372036854775808 ≤ x ∧ x ≤ 9223372036854775807

theorem add_of (a b : Int) (ha : Is64 a) (hb : Is64 b) : num_Add.f a b = if Is64 (a + b) then some (a + b, true) else some (0, false) := by
  unfold Is64 at *
  unfold num_Add.f
  by_cases c1 : b > 0
  · rw [if_pos c1, wrap_small (x := 9223372036854775807 - b) (by omega) (by omega)]
    by_cases c2 : a > 9223372036854775807 - b
    · rw [if_pos c2, if_neg (by omega)]
    · rw [if_neg c2, if_neg (by omega), if_pos (by omega), wrap_small (by omega) (by omega)]
  · rw [if_neg c1]
    by_cases c3 : b < 0
    · rw [if_pos c3, wrap_small (x := -9223372036854775808 - b) (by omega) (by omega)]
      by_cases c2 : a < -9223372036854775808 - b
      · rw [if_pos c2, if_neg (by omega)]
      · rw [if_neg c2, if_pos (by omega), wrap_small (by omega) (by omega)]
    · rw [if_neg c3, if_pos (by omega), wrap_small (by omega) (by omega)]

theorem sub_of (a b : Int) (ha : Is64 a) (hb : Is64 b) : num_Sub.f a b = if Is64 (a - b) then some (a - b, true) else some (0, false) := by
  unfold Is64 at *
  unfold num_Sub.f
  by_cases c1 : b < 0
  · rw [if_pos c1, wrap_small (x := 9223372036854775807 + b) (by omega) (by omega)]
    by_cases c2 : a > 9223372036854775807 + b
    · rw [if_pos c2, if_neg (by omega)]
    · rw [if_neg c2, if_neg (by omega), if_pos (by omega), wrap_small (by omega) (by omega)]
  · rw [if_neg c1]
    by_cases c3 : b > 0
    · rw [if_pos c3, wrap_small (x := -9223372036854775808 + b) (by omega) (by omega)]
      by_cases c2 : a < -9223372036854775808 + b
      · rw [if_pos c2, if_neg (by omega)]
      · rw [if_neg c2, if_pos (by omega), wrap_small (by omega) (by omega)]
    · rw [if_neg c3, if_pos (by omega), wrap_small (by omega) (by omega)]

theorem neg_of (a : Int) (ha : Is64 a) : num_Neg.f a = if a = -9223372036854775808 then some (0, false) else some (-a, true) := by
  unfold num_Neg.f
  rw [sub_of 0 a (by unfold Is64; omega) ha]
  unfold Is64 at *
  by_cases c : a = -9223372036854775808
  · rw [if_neg (by omega), if_pos c]; rfl
  · rw [if_pos (by omega), if_neg c, show (0 : Int) - a = -a by omega]; rfl

theorem half_of (a : Int) (ha : Is64 a) : lamplighterref01_Half.f a = some (a / 4294967296, a % 4294967296) := by
  unfold Is64 at ha
  unfold lamplighterref01_Half.f
  by_cases c : 0 ≤ a
  · have e : Int.tmod a 4294967296 = a % 4294967296 := Int.tmod_eq_emod_of_nonneg c
    rw [e, if_neg (by omega), wrap_small (x := a - a % 4294967296) (by omega) (by omega)]
    rw [Int.tdiv_eq_ediv_of_nonneg (by omega), wrap_small (by omega) (by omega)]
    congr 2; omega
  · have e : Int.tmod a 4294967296 = -((-a) % 4294967296) := by
      rw [← Int.neg_neg a, Int.neg_tmod, Int.tmod_eq_emod_of_nonneg (by omega), Int.neg_neg]
    rw [e]
    by_cases z : (-a) % 4294967296 = 0
    · rw [if_neg (by omega), wrap_small (x := a - -(-a % 4294967296)) (by omega) (by omega)]
      have e2 : Int.tdiv (a - -(-a % 4294967296)) 4294967296 = a / 4294967296 := by
        have : a - -(-a % 4294967296) = -(-a) := by omega
        rw [this, Int.neg_tdiv, Int.tdiv_eq_ediv_of_nonneg (by omega)]; omega
      rw [e2, wrap_small (by omega) (by omega)]
      congr 2; omega
    · rw [if_pos (by omega), wrap_small (x := -(-a % 4294967296) + 4294967296) (by omega) (by omega), wrap_small (x := a - (-(-a % 4294967296) + 4294967296)) (by omega) (by omega)]
      have e2 : Int.tdiv (a - (-(-a % 4294967296) + 4294967296)) 4294967296 = a / 4294967296 := by
        have : a - (-(-a % 4294967296) + 4294967296) = -(-a + 4294967296 - (-a % 4294967296)) := by omega
        rw [this, Int.neg_tdiv, Int.tdiv_eq_ediv_of_nonneg (by omega)]; omega
      rw [e2, wrap_small (by omega) (by omega)]
      congr 2; omega

theorem fits_l1 (k : Nat) (low high : Int) (h0 : -4294967296 ≤ low) (h1 : low < 4294967296) (h2 : -4294967299 ≤ high) (h3 : high ≤ 4294967299) :
    lamplighterref01_Fits.l1 (k + 2) low high = some (decide (Is64 (high * 4294967296 + low))) := by
  simp only [lamplighterref01_Fits.l1]
  unfold Is64
  by_cases c : low < 0
  · rw [if_pos c, wrap_small (x := low + 4294967296) (by omega) (by omega), wrap_small (x := high - 1) (by omega) (by omega), if_neg (by omega)]
    by_cases c2 : high - 1 ≥ -2147483648
    · rw [if_pos c2]; congr 1; apply decide_eq_decide.2; omega
    · rw [if_neg c2]; congr 1; symm; apply decide_eq_false; omega
  · rw [if_neg c]
    by_cases c2 : high ≥ -2147483648
    · rw [if_pos c2]; congr 1; apply decide_eq_decide.2; omega
    · rw [if_neg c2]; congr 1; symm; apply decide_eq_false; omega

theorem fits_l0 (k : Nat) (low high : Int) (h0 : -4294967296 ≤ low) (h1 : low < 8589934592) (h2 : -4294967298 ≤ high) (h3 : high ≤ 4294967298) :
    lamplighterref01_Fits.l0 (k + 4) low high = some (decide (Is64 (high * 4294967296 + low))) := by
  simp only [lamplighterref01_Fits.l0]
  by_cases c : low ≥ 4294967296
  · rw [if_pos c, wrap_small (x := low - 4294967296) (by omega) (by omega), wrap_small (x := high + 1) (by omega) (by omega), if_neg (by omega), fits_l1 k _ _ (by omega) (by omega) (by omega) (by omega)]
    congr 1; apply decide_eq_decide.2; unfold Is64; omega
  · rw [if_neg c]
    exact fits_l1 (k + 1) low high h0 (by omega) (by omega) (by omega)

theorem fits_of (k : Nat) (a b : Int) (m : Bool) (ha : Is64 a) (hb : Is64 b) :
    lamplighterref01_Fits.f (k + 5) a b m = some (decide (Is64 (if m = true then a - b else a + b))) := by
  unfold lamplighterref01_Fits.f
  rw [half_of a ha, half_of b hb]
  simp only [Option.bind_some]
  unfold Is64 at ha hb
  cases m with
  | true =>
    rw [if_pos rfl, if_pos rfl]
    simp only [lamplighterref01_Fits.j0]
    rw [wrap_small (x := -(b / 4294967296)) (by omega) (by omega), wrap_small (x := -(b % 4294967296)) (by omega) (by omega), wrap_small (by omega) (by omega), wrap_small (by omega) (by omega),
      fits_l0 k _ _ (by omega) (by omega) (by omega) (by omega)]
    congr 1; apply decide_eq_decide.2; unfold Is64; omega
  | false =>
    rw [if_neg (by decide), if_neg (by decide)]
    simp only [lamplighterref01_Fits.j0]
    rw [wrap_small (by omega) (by omega), wrap_small (by omega) (by omega), fits_l0 k _ _ (by omega) (by omega) (by omega) (by omega)]
    congr 1; apply decide_eq_decide.2; unfold Is64; omega

theorem awake_true : lamplighterlaw01_awake.f 100 = some true := by decide +kernel

theorem NumSums : lamplighterlaw01_NumSums.Pure := by
  intro a b wa wb
  have ha : Is64 a := by unfold Is64; simpa [Lit.wf, IntKind.min, IntKind.max, IntKind.signed, IntKind.bits] using wa
  have hb : Is64 b := by unfold Is64; simpa [Lit.wf, IntKind.min, IntKind.max, IntKind.signed, IntKind.bits] using wb
  refine ⟨101, ?_⟩
  have f0 : ∀ j : Nat, 5 ≤ j → lamplighterref01_Fits.f j a b false = some (decide (Is64 (a + b))) := fun j hj => by
    obtain ⟨i, rfl⟩ : ∃ i, j = i + 5 := ⟨j - 5, by omega⟩
    exact fits_of i a b false ha hb
  have f1 : ∀ j : Nat, 5 ≤ j → lamplighterref01_Fits.f j a b true = some (decide (Is64 (a - b))) := fun j hj => by
    obtain ⟨i, rfl⟩ : ∃ i, j = i + 5 := ⟨j - 5, by omega⟩
    exact fits_of i a b true ha hb
  have ws : ∀ x, Is64 x → wrap64 x = x := fun x h => wrap_small h.1 h.2
  obtain ⟨s, p, hs, hp, hs1, hs0⟩ : ∃ s p, num_Add.f a b = some (s, p) ∧ decide (Is64 (a + b)) = p ∧ (p = true → s = wrap64 (a + b)) ∧ (p = false → s = 0) := by
    rw [add_of a b ha hb]
    by_cases c : Is64 (a + b)
    · rw [if_pos c]; exact ⟨_, _, rfl, decide_eq_true c, fun _ => (ws _ c).symm, fun h => by cases h⟩
    · rw [if_neg c]; exact ⟨_, _, rfl, decide_eq_false c, (fun h => by cases h), fun _ => rfl⟩
  obtain ⟨d, q, hd, hq, hd1, hd0⟩ : ∃ s p, num_Sub.f a b = some (s, p) ∧ decide (Is64 (a - b)) = p ∧ (p = true → s = wrap64 (a - b)) ∧ (p = false → s = 0) := by
    rw [sub_of a b ha hb]
    by_cases c : Is64 (a - b)
    · rw [if_pos c]; exact ⟨_, _, rfl, decide_eq_true c, fun _ => (ws _ c).symm, fun h => by cases h⟩
    · rw [if_neg c]; exact ⟨_, _, rfl, decide_eq_false c, (fun h => by cases h), fun _ => rfl⟩
  obtain ⟨n, r, hn, hr, hn1, hn0⟩ : ∃ s p, num_Neg.f a = some (s, p) ∧ (a != -9223372036854775808) = p ∧ (p = true → s = wrap64 (-a)) ∧ (p = false → s = 0) := by
    rw [neg_of a ha]
    by_cases c : a = -9223372036854775808
    · rw [if_pos c]; exact ⟨_, _, rfl, by simp [c], (fun h => by cases h), fun _ => rfl⟩
    · rw [if_neg c]; exact ⟨_, _, rfl, by simp [c], (fun _ => (ws _ (by unfold Is64 at *; omega)).symm), fun h => by cases h⟩
  rw [hp] at f0
  rw [hq] at f1
  unfold lamplighterlaw01_NumSums.f
  rw [hs, hd, hn, f0 101 (by omega)]
  simp only [Option.bind_some, lamplighterlaw01_NumSums.j0]
  rw [f0 100 (by omega), f1 100 (by omega), awake_true]
  simp only [Option.bind_some, hr, beq_self_eq_true, if_true]
  cases p <;> cases q <;> cases r <;> simp_all

end Go.Proofs.Ytcnoaflojojfkab.Pure
