/- MsgGoes: what goes to a part. No condition. -/
import Derived.Test.YtcnoaflojojfkaaMsgGPure
namespace Go.Proofs.Ytcnoaflojojfkaa.MsgG
open Go Go.Proofs.Ytcnoaflojojfkaa.Vm
set_option linter.unusedVariables false
set_option linter.unusedSimpArgs false
set_option maxRecDepth 100000
abbrev zM : Msg := ((0 : Int), ((0 : Int), (((⟨#[]⟩ : ByteArray), ((⟨#[]⟩ : ByteArray), ((0 : Int), ((0 : Int), ([] : List Val))))), ((0 : Int), ((⟨#[]⟩ : ByteArray), (([] : List Elm), ((0 : Int), (0 : Int))))))))
theorem tgt_len (m : Msg) (N : Nat) (h1 : 1 ≤ N) (hN : N ≤ 64) : (tgt m N).length ≤ 64 := by
  unfold tgt
  split
  · simp
  · simp; exact hN
def gotP (x : List Msg) (a : Int) (N : Nat) : List Msg := x.flatMap fun m => hits (tgt m N) a m
theorem gotP_len (a : Int) (N : Nat) (h1 : 1 ≤ N) (hN : N ≤ 64) : ∀ x : List Msg, (gotP x a N).length ≤ 64 * x.length
  | [] => Nat.le_refl _
  | m :: x => by
    have ih := gotP_len a N h1 hN x
    have hm := Nat.le_trans (hits_len (tgt m N) a m) (tgt_len m N h1 hN)
    unfold gotP at ih ⊢
    rw [List.flatMap_cons, List.length_append, List.length_cons]
    omega
theorem take_at (x : List Msg) (j : Nat) (hj : j < x.length) : x.take (j + 1) = x.take j ++ [x.getD j zM] := by
  rw [List.take_add_one, List.getD_eq_getElem?_getD, List.getElem?_eq_getElem hj]; rfl
theorem gotP_take (x : List Msg) (a : Int) (N j : Nat) (hj : j < x.length) : gotP (x.take (j + 1)) a N = gotP (x.take j) a N ++ hits (tgt (x.getD j zM) N) a (x.getD j zM) := by
  unfold gotP
  rw [take_at x j hj, List.flatMap_append, List.flatMap_cons, List.flatMap_nil, List.append_nil]
theorem F66_eq (x : List Msg) (hx : ∀ i, Small (x.getD i zM)) (hl : x.length ≤ 20) (a n : Int) (k : Nat) (hk : 110 ≤ k) (κ : List Msg → Option Res) : F66 k x a n κ = κ (gotP x a (cap n)) := by
  obtain ⟨k, rfl⟩ : ∃ k', k = k' + 1 := ⟨k - 1, by omega⟩
  obtain ⟨h1, h2, h3⟩ := cap_eq n
  rw [F66]
  refine (loop_all (κ (gotP x a (cap n))) x.length 82 (fun k j => L66_0 k κ a n (gotP (x.take j) a (cap n)) x (x.length : Int) (j : Int) fun v3 => κ v3.1) (fun k j hk hj => ?_) (fun k => ?_) x.length 0 k (by omega) (by omega))
  · show L66_0 (k + 1) κ a n (gotP (x.take j) a (cap n)) x _ (j : Int) _ = _
    have hg := gotP_len a (cap n) h2 h3 (x.take j)
    rw [List.length_take] at hg
    rw [L66_0, if_pos (lt_t hj), if_pos (rng hj), Int.toNat_natCast]
    refine (F63_eq (x.getD j zM) (hx j) n k (by omega) _).trans ?_
    refine (L66_1_eq a n (gotP (x.take j) a (cap n)) x (x.length : Int) (j : Int) (tgt (x.getD j zM) (cap n)) (x.getD j zM) (tgt_len _ _ h2 h3) (by omega) k (by omega) κ _).trans ?_
    rw [← gotP_take x a (cap n) j hj, wr hj (by omega)]
  · show L66_0 (k + 1) κ a n (gotP (x.take x.length) a (cap n)) x _ ((x.length : Nat) : Int) _ = _
    rw [L66_0, List.take_length]
    simp only [lt_f, Bool.false_eq_true, if_false]
/-- does a message go to a part -/
def goes (N a : Nat) (m : Msg) : Bool := m.1 != 1 || part m.2.2.1.2.1 N == (a : Int)
theorem filt_none (a : Nat) : ∀ N : Nat, N ≤ a → (((List.range N).map fun i : Nat => (i : Int)).filter fun t => t == (a : Int)) = []
  | 0, _ => rfl
  | N + 1, h => by
    rw [List.range_succ, List.map_append, List.filter_append, filt_none a N (by omega)]
    have : ((N : Int) == (a : Int)) = false := by simp; omega
    simp [this]
theorem filt_one (a : Nat) : ∀ N : Nat, a < N → (((List.range N).map fun i : Nat => (i : Int)).filter fun t => t == (a : Int)) = [(a : Int)]
  | 0, h => by omega
  | N + 1, h => by
    rw [List.range_succ, List.map_append, List.filter_append]
    by_cases e : a = N
    · subst e
      rw [filt_none a a (Nat.le_refl _)]
      simp
    · rw [filt_one a N (by omega)]
      have : ((N : Int) == (a : Int)) = false := by simp; omega
      simp [this]
theorem hits_tgt (m : Msg) (N a : Nat) (ha : a < N) : hits (tgt m N) (a : Int) m = if goes N a m = true then [m] else [] := by
  unfold hits tgt goes
  by_cases h : m.1 = 1
  · rw [if_pos h, h]
    by_cases hp : (part m.2.2.1.2.1 N == (a : Int)) = true
    · simp [hp]
    · simp [hp]
  · rw [if_neg h, filt_one a N ha]
    simp [h]
theorem hits_top (m : Msg) (N : Nat) (hN : 0 < N) : hits (tgt m N) (N : Int) m = [] := by
  unfold hits tgt
  by_cases h : m.1 = 1
  · rw [if_pos h]
    have := (part_rng m.2.2.1.2.1 N hN).2
    have e : (part m.2.2.1.2.1 N == (N : Int)) = false := by simp; omega
    simp [e]
  · rw [if_neg h, filt_none N N (Nat.le_refl _)]; rfl
theorem gotP_filter (N a : Nat) (ha : a < N) : ∀ x : List Msg, gotP x (a : Int) N = x.filter (goes N a)
  | [] => rfl
  | m :: x => by
    have ih := gotP_filter N a ha x
    unfold gotP at ih ⊢
    rw [List.flatMap_cons, ih, hits_tgt m N a ha, List.filter_cons]
    split <;> rfl
theorem gotP_top (N : Nat) (hN : 0 < N) : ∀ x : List Msg, gotP x (N : Int) N = []
  | [] => rfl
  | m :: x => by
    have ih := gotP_top N hN x
    unfold gotP at ih ⊢
    rw [List.flatMap_cons, ih, hits_top m N hN]; rfl
/-! how many go to each part -/
def atL (N : Nat) (c : Nat → Nat) : List Int := (List.range N).map fun k : Nat => (c k : Int)
theorem atL_len (N : Nat) (c : Nat → Nat) : (atL N c).length = N := by simp [atL]
theorem atL_at (N : Nat) (c : Nat → Nat) (t : Nat) (ht : t < N) : (atL N c).getD t 0 = (c t : Int) := by
  unfold atL
  rw [List.getD_eq_getElem?_getD, List.getElem?_map, List.getElem?_range ht]; rfl
theorem atL_congr (N : Nat) (c d : Nat → Nat) (h : ∀ k, k < N → c k = d k) : atL N c = atL N d := by
  unfold atL
  exact List.map_congr_left fun k hk => by rw [h k (List.mem_range.1 hk)]
theorem atL_set (N : Nat) (c : Nat → Nat) (t : Nat) (ht : t < N) : (atL N c).set t (((c t + 1 : Nat)) : Int) = atL N (fun k => if k = t then c k + 1 else c k) := by
  apply List.ext_getElem?
  intro i
  unfold atL
  rw [List.getElem?_set, List.getElem?_map, List.getElem?_map]
  by_cases hi : i < N
  · rw [List.getElem?_range hi]
    by_cases hj : t = i
    · subst hj; simp [hi]
    · rw [if_neg hj]; simp [Ne.symm hj, show ¬ i = t from fun e => hj e.symm]
  · rw [List.getElem?_eq_none (l := List.range N) (by simp; omega)]
    by_cases hj : t = i
    · subst hj; omega
    · rw [if_neg hj]; rfl
end Go.Proofs.Ytcnoaflojojfkaa.MsgG
