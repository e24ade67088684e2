/- MsgGoes: what comes to each part is what went there, in order. No condition. -/
import Derived.Test.YtcnoaflojojfkaaMsgGAt
namespace Go.Proofs.Ytcnoaflojojfkaa.MsgG
open Go Go.Proofs.Ytcnoaflojojfkaa.Vm
set_option linter.unusedVariables false
set_option linter.unusedSimpArgs false
set_option maxRecDepth 100000
theorem filter_at (x : List Msg) (p : Msg → Bool) (i : Nat) (hi : i < x.length) (hp : p (x.getD i zM) = true) :
    (x.filter p).getD ((x.take i).filter p).length zM = x.getD i zM ∧ ((x.take i).filter p).length < (x.filter p).length := by
  have e : x.filter p = (x.take i).filter p ++ (x.getD i zM :: (x.drop (i + 1)).filter p) := by
    have h1 : x = x.take i ++ (x.getD i zM :: x.drop (i + 1)) := by
      rw [List.getD_eq_getElem?_getD, List.getElem?_eq_getElem hi]
      show x = x.take i ++ (x[i] :: x.drop (i + 1))
      rw [← List.drop_eq_getElem_cons hi, List.take_append_drop]
    have h2 := congrArg (List.filter p) h1
    rw [List.filter_append, List.filter_cons, if_pos hp] at h2
    exact h2
  rw [e]
  constructor
  · rw [List.getD_eq_getElem?_getD, List.getElem?_append_right (Nat.le_refl _), Nat.sub_self]; rfl
  · rw [List.length_append]; simp
theorem L14_3_eq (x : List Msg) (hx : ∀ i, Small (x.getD i zM)) (hl : x.length ≤ 20) (n : Int) (at' : List Int) (a : Nat) (k : Nat) (hk : 60 ≤ k) (κ : Bool → Option Res) (r : Option Res) :
    L14_3 k κ n x ((cap n : Nat) : Int) at' (a : Int) (x.filter (goes (cap n) a)) 0 0 (fun _ => r) = r := by
  refine loop_all r x.length 30 (fun k i => L14_3 k κ n x ((cap n : Nat) : Int) at' (a : Int) (x.filter (goes (cap n) a)) ((((x.take i).filter (goes (cap n) a)).length : Nat) : Int) (i : Int) (fun _ => r)) (fun k i hk hi => ?_) (fun k => ?_) x.length 0 k (by omega) (by omega)
  · show L14_3 (k + 1) κ n x _ at' (a : Int) _ ((((x.take i).filter (goes (cap n) a)).length : Nat) : Int) (i : Int) _ = _
    have hr := rng hi
    have hJ : ((x.take i).filter (goes (cap n) a)).length < 21 := by
      have := List.length_filter_le (goes (cap n) a) (x.take i)
      rw [List.length_take] at this; omega
    have hcnt := cnt_step x (cap n) i a hi
    rw [hcnt]
    have hsame : goes (cap n) a (x.getD i zM) = true → ∀ {J : Nat}, J = ((x.take i).filter (goes (cap n) a)).length → (x.filter (goes (cap n) a)).getD J zM = x.getD i zM ∧ J < (x.filter (goes (cap n) a)).length := fun h J e => by
      rw [e]; exact filter_at x _ i hi h
    generalize hJe : ((x.take i).filter (goes (cap n) a)).length = J at hJ hsame ⊢
    by_cases h : (x.getD i zM).1 = 1
    · have b2 : ((x.getD i zM).1 != 1) = false := by rw [h]; rfl
      by_cases hp : (part (x.getD i zM).2.2.1.2.1 (cap n) == (a : Int)) = true
      · have hg : goes (cap n) a (x.getD i zM) = true := by unfold goes; rw [hp]; simp
        obtain ⟨s1, s2⟩ := hsame hg rfl
        have hr6 := rng s2
        have hd6 := decide_eq_true s2
        have hge : ¬ decide ((J : Int) ≥ ((x.filter (goes (cap n) a)).length : Int)) = true := by simp; omega
        rw [L14_3, if_pos (lt_t hi), if_pos hr, Int.toNat_natCast, Int.toNat_natCast, b2, if_neg (by simp), if_pos hr, F65_eq _ (hx i).key n _ (by omega), if_pos hp, if_neg hge, if_pos hr6, if_pos hd6, if_pos hr, s1]
        refine (F61_self (x.getD i zM) (hx i) k (by omega) _).trans ?_
        rw [if_neg (by simp), if_pos hr6, if_pos hd6, if_pos hr, if_neg (by simp), wr hJ (by omega), wr hi (by omega), if_pos hg]
      · have hg : ¬ goes (cap n) a (x.getD i zM) = true := by unfold goes; rw [b2]; simpa using hp
        rw [L14_3, if_pos (lt_t hi), if_pos hr, Int.toNat_natCast, b2, if_neg (by simp), if_pos hr, F65_eq _ (hx i).key n _ (by omega), if_neg hp, wr hi (by omega), if_neg hg]
        rfl
    · have b2 : ((x.getD i zM).1 != 1) = true := by simpa using h
      have hg : goes (cap n) a (x.getD i zM) = true := by unfold goes; rw [b2]; rfl
      obtain ⟨s1, s2⟩ := hsame hg rfl
      have hr6 := rng s2
      have hd6 := decide_eq_true s2
      have hge : ¬ decide ((J : Int) ≥ ((x.filter (goes (cap n) a)).length : Int)) = true := by simp; omega
      rw [L14_3, if_pos (lt_t hi), if_pos hr, Int.toNat_natCast, Int.toNat_natCast, b2, if_pos rfl, if_neg hge, if_pos hr6, if_pos hd6, if_pos hr, s1]
      refine (F61_self (x.getD i zM) (hx i) k (by omega) _).trans ?_
      rw [if_neg (by simp), if_pos hr6, if_pos hd6, if_pos hr, if_neg (by simp), wr hJ (by omega), wr hi (by omega), if_pos hg]
  · show L14_3 (k + 1) κ n x _ at' (a : Int) _ _ ((x.length : Nat) : Int) _ = _
    rw [L14_3]
    simp only [lt_f, Bool.false_eq_true, if_false]
theorem L14_2_eq (x : List Msg) (hx : ∀ i, Small (x.getD i zM)) (hl : x.length ≤ 20) (n : Int) (k : Nat) (hk : 190 ≤ k) (κ : Bool → Option Res) (r : Option Res) :
    L14_2 k κ n x ((cap n : Nat) : Int) (atL (cap n) (fun a => (x.filter (goes (cap n) a)).length)) 0 (fun _ => r) = r := by
  obtain ⟨h1, h2, h3⟩ := cap_eq n
  refine loop_all r (cap n) 120 (fun k a => L14_2 k κ n x ((cap n : Nat) : Int) (atL (cap n) (fun a => (x.filter (goes (cap n) a)).length)) (a : Int) (fun _ => r)) (fun k a hk ha => ?_) (fun k => ?_) (cap n) 0 k (by omega) (by omega)
  · show L14_2 (k + 1) κ n x _ _ (a : Int) _ = _
    rw [L14_2, if_pos (lt_t ha), F66_eq x hx hl (a : Int) n k (by omega), gotP_filter (cap n) a ha, atL_len, if_pos (rng ha), Int.toNat_natCast, if_pos (decide_eq_true ha), atL_at _ _ a ha, if_neg (by simp), L14_3_eq x hx hl n _ a k (by omega), wr ha (by omega)]
  · show L14_2 (k + 1) κ n x _ _ ((cap n : Nat) : Int) _ = _
    rw [L14_2]
    simp only [lt_f, Bool.false_eq_true, if_false]
theorem F62_eq (κ : Bool → Option Res) : F62 200 κ = κ true := by kernel_rfl
theorem F14_tail (x : List Msg) (hx : ∀ i, Small (x.getD i zM)) (hl : x.length ≤ 20) (a0 : List Msg) (n : Int) (κ : Bool → Option Res) (h60 : ∀ κ', F60 200 a0 κ' = κ' x) : F14 201 a0 n κ = κ true := by
  obtain ⟨h1, h2, h3⟩ := cap_eq n
  rw [F14, h60, h1, if_pos (by simp; omega), Int.toNat_natCast, L14_0_eq x hx hl n 200 (by omega), L14_2_eq x hx hl n 200 (by omega), F62_eq, if_pos rfl, F66_eq x hx hl _ n 200 (by omega), gotP_top (cap n) (by omega)]
  rfl
end Go.Proofs.Ytcnoaflojojfkaa.MsgG
