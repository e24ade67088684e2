/- The pure side of 'MarkLeast': the earliest of some marks; that of none is at -1; for every list. -/
import Derived.Test.YtcnoaflojojfkaaPMarkLeastx1
namespace Go.Proofs.Ytcnoaflojojfkaa.Pure
open Go.RowKit Go.Proofs.Ytcnoaflojojfkaa.PMarkLeast Go.Proofs.YtcnoaflojojfkaaW.PrintWords Go.Proofs.YtcnoaflojojfkaaW.PrintLast Go.Proofs.YtcnoaflojojfkaaW.PrintMore

theorem wrap_small {x : Int} (h0 : -9223372036854775808 ≤ x) (h1 : x ≤ 9223372036854775807) : wrap64 x = x := by
  unfold wrap64
  omega

theorem and255 (n : Int) : Go.bits .and .i64 n 255 = n % 256 := by
  have h127 : (BitVec.ofInt 64 255).toNat = 2 ^ 8 - 1 := by decide
  have key : (BitVec.ofInt 64 n &&& BitVec.ofInt 64 255).toNat = (n % ((2 ^ 64 : Nat) : Int)).toNat % 2 ^ 8 := by
    rw [BitVec.toNat_and, BitVec.toNat_ofInt, h127, Nat.and_two_pow_sub_one_eq_mod]
  show IntKind.i64.wrap ((BitVec.ofInt 64 n &&& BitVec.ofInt 64 255).toNat : Nat) = n % 256
  rw [key, IntKind.wrap_i64]
  omega

theorem at_of (a : Int) (h0 : -1 ≤ a) (h1 : a ≤ 1099511627776) : mark_Mark_At.f (a + 1) = some a := by
  unfold mark_Mark_At.f
  rw [wrap_small (by omega) (by omega)]
  congr 1; omega

theorem late_of (a t : Int) (h0 : -1 ≤ a) (h1 : a ≤ 1099511627776) : mark_Mark_Late.f (a + 1) t = some (decide (t ≤ a)) := by
  unfold mark_Mark_Late.f
  rw [at_of a h0 h1]; rfl

theorem to_of (a t : Int) (h0 : -1 ≤ a) (h1 : a ≤ 1099511627776) : mark_Mark_To.f (a + 1) t =
    if t < 0 ∨ t > 1099511627776 then some (a + 1, 12) else if t ≤ a then some (a + 1, 7) else some (t + 1, 0) := by
  unfold mark_Mark_To.f num_Time.f
  by_cases c0 : t < 0
  · rw [if_neg (by omega), if_pos (.inl c0)]; rfl
  · rw [if_pos (by omega)]
    by_cases c1 : t > 1099511627776
    · rw [if_pos (.inr c1)]
      simp only [Option.bind_some]
      rw [if_neg (by simp; omega)]
    · rw [if_neg (by omega)]
      simp only [Option.bind_some]
      rw [if_pos (by simp; omega), at_of a h0 h1]
      simp only [Option.bind_some]
      rw [wrap_small (by omega) (by omega)]

theorem awake_true : lamplighterlaw27_awake.f = some true := by
  have e0 : mark_Mark_At.f 0 = some (-1) := by have := at_of (-1) (by omega) (by omega); simpa using this
  have e1 : mark_Mark_To.f 0 5 = some (6, 0) := by have := to_of (-1) 5 (by omega) (by omega); simpa using this
  have e2 : mark_Mark_To.f 6 5 = some (6, 7) := by have := to_of 5 5 (by omega) (by omega); simpa using this
  have e3 : mark_Mark_At.f 6 = some 5 := by have := at_of 5 (by omega) (by omega); simpa using this
  have e4 : mark_Mark_Late.f 6 5 = some true := by have := late_of 5 5 (by omega) (by omega); simpa using this
  have e5 : mark_Mark_Late.f 6 6 = some false := by have := late_of 5 6 (by omega) (by omega); simpa using this
  unfold lamplighterlaw27_awake.f
  simp only [e0, e1, e2, e3, e4, e5, Option.bind_some]
  rfl

/-- the least of a first one and of others -/
def low (a : Int) (l : List S24) : Int := l.foldl (fun a s => mn a s.f0) a
theorem low_snoc (a : Int) (l : List S24) (s : S24) : low a (l ++ [s]) = mn (low a l) s.f0 := by simp [low]
/-- the least of some, 0 of none -/
def least : List S24 → Int
  | [] => 0
  | s :: l => low s.f0 (s :: l)
theorem mn_self (a : Int) : mn a a = a := by unfold mn; split <;> rfl

theorem least_round (l : List S24) (d : Nat) : ∀ (k : Nat) (i a : Int), 0 ≤ i → i ≤ l.length → (l.length : Int) - i = d → l.length ≤ 100 → d < k →
    mark_Least.l0 k l (l.length : Int) i a = some (low a (l.drop i.toNat)) := by
  induction d with
  | zero =>
    intro k i a h0 h1 hd hl hk
    obtain ⟨k, rfl⟩ : ∃ m, k = m + 1 := ⟨k - 1, by omega⟩
    simp only [mark_Least.l0]
    rw [if_neg (by omega), List.drop_eq_nil_of_le (by omega)]; rfl
  | succ d ih =>
    intro k i a h0 h1 hd hl hk
    obtain ⟨k, rfl⟩ : ∃ m, k = m + 1 := ⟨k - 1, by omega⟩
    have hlt : i < (l.length : Int) := by omega
    have hn : i.toNat < l.length := by omega
    simp only [mark_Least.l0]
    rw [if_pos hlt, if_pos h0, if_pos hlt, wrap_small (by omega) (by omega), ih k (i + 1) _ (by omega) (by omega) (by omega) hl (by omega)]
    rw [List.drop_eq_getElem_cons hn, show (i + 1).toNat = i.toNat + 1 by omega]
    have : rd_T24 l i = l[i.toNat] := by simp [rd_T24, hn]
    rw [this]; rfl

theorem least_of (l : List S24) (k : Nat) (hl : l.length ≤ 100) (hk : l.length < k) : mark_Least.f k l = some (least l) := by
  unfold mark_Least.f
  cases l with
  | nil => rfl
  | cons s r =>
    rw [if_neg (by simp only [List.length_cons]; omega), if_pos (by simp only [List.length_cons]; omega), least_round (s :: r) (s :: r).length k 0 _ (by omega) (by omega) (by omega) hl hk]
    rfl

theorem least_snoc (l : List S24) (s : S24) : least (l ++ [s]) = if l = [] then s.f0 else mn (least l) s.f0 := by
  cases l with
  | nil => simp [least, low, mn_self]
  | cons x r =>
    rw [if_neg (by simp)]
    show low x.f0 (x :: r ++ [s]) = _
    rw [low_snoc]; rfl

theorem goes (l0 : List Int) (_hl : l0.length * 8 ≤ 140737488351232) (d : Nat) : ∀ (k : Nat) (i w : Int) (x : List S24), 0 ≤ i → i ≤ l0.length → (l0.length : Int) - i = d → (x.length : Int) = i → i ≤ 20 →
    w = least x - 1 → 0 ≤ least x → least x ≤ 256 → 2 * d + 60 < k → lamplighterlaw27_MarkLeast.l0 k l0 x w i = some true := by
  have fin : ∀ (k : Nat) (i w : Int) (x : List S24), (x.length : Int) = i → i ≤ 20 → w = least x - 1 → 0 ≤ least x → least x ≤ 256 → 50 < k →
      lamplighterlaw27_MarkLeast.j1 k l0 x w i false = some true := by
    intro k i w x hx hi hw hw0 hw1 hk
    obtain ⟨k, rfl⟩ : ∃ m, k = m + 1 := ⟨k - 1, by omega⟩
    simp only [lamplighterlaw27_MarkLeast.j1]
    rw [if_neg (by decide), awake_true]
    simp only [Option.bind_some, if_true]
    rw [least_of x k (by omega) (by omega), least_of [] k (by simp) (by simp; omega)]
    simp only [Option.bind_some]
    have e : mark_Mark_At.f (least x) = some (least x - 1) := by have := at_of (least x - 1) (by omega) (by omega); rw [show least x - 1 + 1 = least x by omega] at this; exact this
    have e0 : mark_Mark_At.f (least []) = some (-1) := by have := at_of (-1) (by omega) (by omega); simpa [least] using this
    rw [e, e0]
    simp only [Option.bind_some]
    rw [if_pos hw.symm]; rfl
  induction d with
  | zero =>
    intro k i w x h0 h1 hd hx hi hw hw0 hw1 hk
    obtain ⟨k, rfl⟩ : ∃ m, k = m + 1 := ⟨k - 1, by omega⟩
    simp only [lamplighterlaw27_MarkLeast.l0]
    rw [if_neg (by omega)]
    exact fin k i w x hx hi hw hw0 hw1 (by omega)
  | succ d ih =>
    intro k i w x h0 h1 hd hx hi hw hw0 hw1 hk
    obtain ⟨k, rfl⟩ : ∃ m, k = m + 2 := ⟨k - 2, by omega⟩
    have hlt : i < (l0.length : Int) := by omega
    have hww : wrap64 (i + 1) = i + 1 := wrap_small (by omega) (by omega)
    simp only [lamplighterlaw27_MarkLeast.l0]
    rw [if_pos hlt]
    by_cases h20 : i < 20
    · rw [decide_eq_true h20]
      simp only [lamplighterlaw27_MarkLeast.j1]
      rw [if_pos trivial, if_pos h0, if_pos hlt, and255]
      have hm0 : 0 ≤ rd l0 i % 256 := by omega
      have hm1 : rd l0 i % 256 < 256 := by omega
      generalize rd l0 i % 256 = t at *
      have eto : mark_Mark_To.f 0 t = some (t + 1, 0) := by
        have := to_of (-1) t (by omega) (by omega)
        rw [if_neg (by omega), if_neg (by omega)] at this; simpa using this
      rw [eto]
      simp only [Option.bind_some]
      have hxl : x.length < 17592186044416 := by omega
      have hnil : i = 0 ↔ x = [] := by
        rw [← hx]; simp
      rw [if_pos hxl, if_pos hxl, hww]
      have key : ∀ (s w' : Int), 0 ≤ s → s ≤ 256 → w' = (if i = 0 then s - 1 else if s - 1 < w then s - 1 else w) →
          lamplighterlaw27_MarkLeast.l0 k l0 (x ++ [⟨s⟩]) w' (i + 1) = some true := by
        intro s w' hs0 hs1 hw'
        have e := least_snoc x ⟨s⟩
        have e2 : w' = least (x ++ [⟨s⟩]) - 1 ∧ 0 ≤ least (x ++ [⟨s⟩]) ∧ least (x ++ [⟨s⟩]) ≤ 256 := by
          rw [e, hw']
          by_cases hz : i = 0
          · rw [if_pos hz, if_pos (hnil.1 hz)]; exact ⟨rfl, hs0, hs1⟩
          · rw [if_neg hz, if_neg (fun c => hz (hnil.2 c))]
            unfold mn
            split <;> split <;> dsimp only at * <;> omega
        exact ih k (i + 1) w' (x ++ [⟨s⟩]) (by omega) (by omega) (by omega) (by simp; omega) (by omega) e2.1 e2.2.1 e2.2.2 (by omega)
      by_cases c : (Go.bits .and .i64 (rd l0 i) 768) = 0
      · rw [if_pos c]
        by_cases hz : i = 0
        · rw [if_pos hz]; exact key 0 (-1) (by omega) (by omega) (by rw [if_pos hz]; rfl)
        · rw [if_neg hz]
          by_cases hlw : (-1) < w
          · rw [if_pos hlw]; exact key 0 (-1) (by omega) (by omega) (by rw [if_neg hz, if_pos (by omega)]; rfl)
          · rw [if_neg hlw]; exact key 0 w (by omega) (by omega) (by rw [if_neg hz, if_neg (by omega)])
      · rw [if_neg c]
        by_cases hz : i = 0
        · rw [if_pos hz]; exact key (t + 1) t (by omega) (by omega) (by rw [if_pos hz]; omega)
        · rw [if_neg hz]
          by_cases hlw : t < w
          · rw [if_pos hlw]; exact key (t + 1) t (by omega) (by omega) (by rw [if_neg hz, if_pos (by omega)]; omega)
          · rw [if_neg hlw]; exact key (t + 1) w (by omega) (by omega) (by rw [if_neg hz, if_neg (by omega)])
    · rw [decide_eq_false h20]
      exact fin (k + 1) i w x hx hi hw hw0 hw1 (by omega)

theorem MarkLeast : lamplighterlaw27_MarkLeast.Pure := by
  intro l0 _ hl _
  exact ⟨2 * l0.length + 61, goes l0 hl l0.length (2 * l0.length + 61) 0 (-1) [] (by omega) (by omega) (by omega) (by simp) (by omega) (by simp [least]) (by simp [least]) (by simp [least]) (by omega)⟩

end Go.Proofs.Ytcnoaflojojfkaa.Pure
