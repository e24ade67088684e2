/- MsgGoes: how many messages go to each part. No condition. -/
import Derived.Test.YtcnoaflojojfkaaMsgGFor
namespace Go.Proofs.Ytcnoaflojojfkaa.MsgG
open Go Go.Proofs.Ytcnoaflojojfkaa.Vm
set_option linter.unusedVariables false
set_option linter.unusedSimpArgs false
set_option maxRecDepth 100000
theorem L14_1_step (n : Int) (x : List Msg) (N : Nat) (c : Nat → Nat) (i : Int) (ts : List Int) (ev : Bool) (j t k : Nat) (hj : j < ts.length) (hjl : ts.length ≤ 64) (ht : ts.getD j 0 = (t : Int)) (htN : t < N) (he : ev = true ∨ t = j) (hc : c t ≤ 100)
    (κ : Bool → Option Res) (K : List Int × Int → Option Res) :
    L14_1 (k + 1) κ n x (N : Int) (atL N c) i ts ev (j : Int) K = L14_1 k κ n x (N : Int) (atL N fun a => if a = t then c a + 1 else c a) i ts ev ((j + 1 : Nat) : Int) K := by
  have hA : ¬ decide (ts.getD j 0 < 0) = true := by rw [ht]; simp
  have hB : ¬ decide (ts.getD j 0 ≥ (N : Int)) = true := by rw [ht]; simp; omega
  have hD : (decide ((0 : Int) ≤ ts.getD j 0) && decide (ts.getD j 0 < ((atL N c).length : Int))) = true := by rw [ht, atL_len]; exact rng htN
  have hE : decide ((ts.getD j 0).toNat < (atL N c).length) = true := by rw [ht, atL_len, Int.toNat_natCast]; exact decide_eq_true htN
  have hr := rng hj
  have hd := decide_eq_true hj
  have hw : IntKind.wrap .i64 ((c t : Int) + 1) = ((c t + 1 : Nat) : Int) := by rw [wrap_small (by omega) (by omega)]; omega
  rw [L14_1, if_pos (lt_t hj), if_pos hr, Int.toNat_natCast, if_pos hd, if_neg hA, if_pos hr, if_pos hd, if_neg hB]
  cases ev with
  | true =>
    rw [if_neg (by simp), if_pos hr, if_pos hd, if_pos hD, if_pos hE, if_pos hD, if_pos hE, ht, Int.toNat_natCast, atL_at N c t htN, hw, atL_set N c t htN, wr hj (by omega)]
  | false =>
    have hC : ¬ (ts.getD j 0 != (j : Int)) = true := by
      rcases he with h | h
      · cases h
      · rw [ht, h]; simp
    rw [if_pos (show (!false) = true from rfl), if_pos hr, if_pos hd, if_neg hC, if_pos hr, if_pos hd, if_pos hD, if_pos hE, if_pos hD, if_pos hE, ht, Int.toNat_natCast, atL_at N c t htN, hw, atL_set N c t htN, wr hj (by omega)]
theorem L14_1_end (n : Int) (x : List Msg) (N : Nat) (at' : List Int) (i : Int) (ts : List Int) (ev : Bool) (k : Nat) (κ : Bool → Option Res) (K : List Int × Int → Option Res) :
    L14_1 (k + 1) κ n x (N : Int) at' i ts ev ((ts.length : Nat) : Int) K = K (at', (ts.length : Int)) := by
  rw [L14_1]
  simp only [lt_f, Bool.false_eq_true, if_false]
theorem L14_1_eq (n : Int) (x : List Msg) (N : Nat) (h1 : 1 ≤ N) (hN : N ≤ 64) (c : Nat → Nat) (hc : ∀ a, c a ≤ 100) (i : Int) (m : Msg) (k : Nat) (hk : 70 ≤ k) (κ : Bool → Option Res) (K : List Int × Int → Option Res) :
    L14_1 k κ n x (N : Int) (atL N c) i (tgt m N) (m.1 == 1) 0 K = K (atL N (fun a => c a + if goes N a m = true then 1 else 0), ((tgt m N).length : Int)) := by
  by_cases h : m.1 = 1
  · obtain ⟨k, rfl⟩ : ∃ k', k = k' + 2 := ⟨k - 2, by omega⟩
    have hp := part_rng m.2.2.1.2.1 N h1
    obtain ⟨t, ht⟩ : ∃ t : Nat, part m.2.2.1.2.1 N = (t : Int) := ⟨(part m.2.2.1.2.1 N).toNat, by omega⟩
    have e : tgt m N = [(t : Int)] := by unfold tgt; rw [if_pos h, ht]
    have eb : (m.1 == 1) = true := by rw [h]; rfl
    rw [e, eb]
    refine (L14_1_step n x N c i [(t : Int)] true 0 t (k + 1) (by simp) (by simp) rfl (by omega) (.inl rfl) (hc t) κ K).trans ?_
    refine (L14_1_end n x N _ i [(t : Int)] true k κ K).trans ?_
    rw [atL_congr N _ (fun a => c a + if goes N a m = true then 1 else 0) (fun a ha => ?_)]
    unfold goes
    rw [h, ht]
    by_cases e' : a = t
    · subst e'; simp
    · have : ((t : Int) == (a : Int)) = false := by simp; omega
      simp [this, e']
  · have e : tgt m N = (List.range N).map fun i : Nat => (i : Int) := by unfold tgt; rw [if_neg h]
    have eb : (m.1 == 1) = false := by simpa using h
    have hlen : (tgt m N).length = N := by rw [e]; simp
    rw [eb]
    have h0 : atL N c = atL N (fun a => c a + if a < 0 then 1 else 0) := atL_congr N _ _ fun a _ => by simp
    rw [h0]
    refine (loop_all (K (atL N (fun a => c a + if a < N then 1 else 0), ((tgt m N).length : Int))) (tgt m N).length 0 (fun k j => L14_1 k κ n x (N : Int) (atL N (fun a => c a + if a < j then 1 else 0)) i (tgt m N) false (j : Int) K) (fun k j hk hj => ?_) (fun k => ?_) (tgt m N).length 0 k (by omega) (by omega)).trans ?_
    · have hjN : j < N := by omega
      have hat : (tgt m N).getD j 0 = (j : Int) := by
        rw [e, List.getD_eq_getElem?_getD, List.getElem?_map, List.getElem?_range hjN]; rfl
      refine (L14_1_step n x N _ i (tgt m N) false j j k hj (by omega) hat hjN (.inr rfl) (by have := hc j; simp; exact this) κ K).trans ?_
      rw [atL_congr N _ (fun a => c a + if a < j + 1 then 1 else 0) (fun a ha => ?_)]
      by_cases e' : a = j
      · subst e'; simp
      · by_cases h' : a < j
        · simp [e', h', show a < j + 1 by omega]
        · simp [e', h', show ¬ a < j + 1 by omega]
    · have := L14_1_end n x N (atL N (fun a => c a + if a < (tgt m N).length then 1 else 0)) i (tgt m N) false k κ K
      rw [hlen] at this
      show L14_1 (k + 1) κ n x (N : Int) (atL N (fun a => c a + if a < (tgt m N).length then 1 else 0)) i (tgt m N) false (((tgt m N).length : Nat) : Int) K = _
      rw [hlen]; exact this
    · rw [atL_congr N _ (fun a => c a + if goes N a m = true then 1 else 0) (fun a ha => ?_)]
      unfold goes
      have : (m.1 != 1) = true := by simpa using h
      simp [ha, this]
theorem cnt_step (x : List Msg) (N j a : Nat) (hj : j < x.length) : ((x.take (j + 1)).filter (goes N a)).length = ((x.take j).filter (goes N a)).length + if goes N a (x.getD j zM) = true then 1 else 0 := by
  rw [take_at x j hj, List.filter_append, List.length_append]
  by_cases h : goes N a (x.getD j zM) = true
  · simp only [List.filter_cons, h, if_true, List.filter_nil, List.length_singleton]
  · simp only [List.filter_cons, h, if_false, List.filter_nil, List.length_nil]
    simp
theorem L14_0_eq (x : List Msg) (hx : ∀ i, Small (x.getD i zM)) (hl : x.length ≤ 20) (n : Int) (k : Nat) (hk : 120 ≤ k) (κ : Bool → Option Res) (K : List Int × Int → Option Res) :
    L14_0 k κ n x ((cap n : Nat) : Int) (List.replicate (cap n) 0) 0 K = K (atL (cap n) (fun a => (x.filter (goes (cap n) a)).length), (x.length : Int)) := by
  obtain ⟨h1, h2, h3⟩ := cap_eq n
  generalize hN : cap n = N at h1 h2 h3 ⊢
  have h0 : List.replicate N (0 : Int) = atL N (fun a => ((x.take 0).filter (goes N a)).length) := by
    symm
    refine List.eq_replicate_iff.2 ⟨atL_len N _, fun b hb => ?_⟩
    unfold atL at hb
    obtain ⟨i, _, e⟩ := List.mem_map.1 hb
    rw [← e]; simp
  rw [h0]
  refine (loop_all (K (atL N (fun a => ((x.take x.length).filter (goes N a)).length), (x.length : Int))) x.length 82 (fun k j => L14_0 k κ n x (N : Int) (atL N (fun a => ((x.take j).filter (goes N a)).length)) (j : Int) K) (fun k j hk hj => ?_) (fun k => ?_) x.length 0 k (by omega) (by omega)).trans (by rw [List.take_length])
  · show L14_0 (k + 1) κ n x (N : Int) (atL N (fun a => ((x.take j).filter (goes N a)).length)) (j : Int) K = _
    have hr := rng hj
    have hd := decide_eq_true hj
    obtain ⟨k, rfl⟩ : ∃ k', k = k' + 1 := ⟨k - 1, by omega⟩
    have hb : ∀ a, ((x.take j).filter (goes N a)).length ≤ 100 := fun a => by
      have := List.length_filter_le (goes N a) (x.take j)
      rw [List.length_take] at this; omega
    have hlast := L14_1_eq n x N h2 h3 _ hb (j : Int) (x.getD j zM) (k + 1) (by omega) κ (fun v => L14_0 (k + 1) κ n x (N : Int) v.1 (IntKind.wrap .i64 ((j : Int) + 1)) K)
    have hfin : (fun a => ((x.take j).filter (goes N a)).length + if goes N a (x.getD j zM) = true then 1 else 0) = fun a => ((x.take (j + 1)).filter (goes N a)).length := by
      funext a; rw [cnt_step x N j a hj]
    rw [hfin, wr hj (by omega)] at hlast
    rw [L14_0, if_pos (lt_t hj), if_pos hr, Int.toNat_natCast, if_pos hd]
    refine (F63_eq (x.getD j zM) (hx j) n (k + 1) (by omega) _).trans ?_
    rw [hN]
    rw [if_pos hr, if_pos hd, if_pos hr, if_pos hd]
    refine (F64_eq k (x.getD j zM) _).trans ?_
    by_cases h : (x.getD j zM).1 = 1
    · have b1 : ((x.getD j zM).1 == 1) = true := by rw [h]; rfl
      have b2 : ((x.getD j zM).1 != 1) = false := by rw [h]; rfl
      have ht : tgt (x.getD j zM) N = [part (x.getD j zM).2.2.1.2.1 N] := by unfold tgt; rw [if_pos h]
      rw [b1] at hlast
      rw [b1, b2, if_neg (by simp), if_pos rfl, if_neg (by rw [ht]; simp), if_pos (by rw [ht]; simp), if_pos (by rw [ht]; simp), if_pos hr, if_pos hd, F65_eq _ (hx j).key n _ (by omega), hN, if_neg (by rw [ht]; simp), if_neg (by simp), wr hj (by omega)]
      exact hlast
    · have b1 : ((x.getD j zM).1 == 1) = false := by simpa using h
      have b2 : ((x.getD j zM).1 != 1) = true := by simpa using h
      have ht : (tgt (x.getD j zM) N).length = N := by unfold tgt; rw [if_neg h]; simp
      rw [b1] at hlast
      rw [b1, b2, if_neg (by simp), if_neg (by simp), if_pos (show (!false) = true from rfl), if_neg (by rw [ht]; simp), wr hj (by omega)]
      exact hlast
  · show L14_0 (k + 1) κ n x (N : Int) _ ((x.length : Nat) : Int) K = _
    rw [L14_0]
    simp only [lt_f, Bool.false_eq_true, if_false]
end Go.Proofs.Ytcnoaflojojfkaa.MsgG
