/- MsgGoes as a function over lists and numbers: it is true of all messages and numbers. No condition. -/
import Derived.Test.YtcnoaflojojfkaaMsgG
import Derived.Test.YtcnoaflojojfkaaBits
import Derived.Laws.StructEq
import Derived.KernelRfl
namespace Go.Proofs.Ytcnoaflojojfkaa.MsgG
open Go Go.Proofs.Ytcnoaflojojfkaa.Vm
set_option linter.unusedVariables false
set_option linter.unusedSimpArgs false
set_option maxRecDepth 100000
theorem wrap_small {x : Int} (h0 : -9223372036854775808 ≤ x) (h1 : x ≤ 9223372036854775807) : IntKind.wrap .i64 x = x := by
  rw [IntKind.wrap_i64]; omega
theorem lt_t {j n : Nat} (h : j < n) : decide ((j : Int) < (n : Int)) = true := by simpa using h
theorem lt_f (n : Nat) : decide ((n : Int) < (n : Int)) = false := by simp
theorem rng {j n : Nat} (h : j < n) : (decide ((0 : Int) ≤ (j : Int)) && decide ((j : Int) < (n : Int))) = true := by simp; omega
theorem wr {j n : Nat} (h : j < n) (hn : n ≤ 1000) : IntKind.wrap .i64 ((j : Int) + 1) = ((j + 1 : Nat) : Int) := by rw [wrap_small (by omega) (by omega)]; omega
/-- a loop that goes on to its end -/
theorem loop_all {R : Type} (e : R) (n N : Nat) (S : Nat → Nat → R) (hs : ∀ k j, N ≤ k → j < n → S (k + 1) j = S k (j + 1)) (he : ∀ k, S (k + 1) n = e) : ∀ m j k, j + m = n → m + 1 + N ≤ k → S k j = e := by
  intro m
  induction m with
  | zero =>
    intro j k hj hk
    obtain ⟨k, rfl⟩ : ∃ k', k = k' + 1 := ⟨k - 1, by omega⟩
    have : j = n := by omega
    subst this
    exact he k
  | succ m ih =>
    intro j k hj hk
    obtain ⟨k, rfl⟩ : ∃ k', k = k' + 1 := ⟨k - 1, by omega⟩
    rw [hs k j (by omega) (by omega), ih (j + 1) k (by omega) (by omega)]
abbrev Val := Int × (Int × (ByteArray × Bool))
abbrev Evt := ByteArray × (ByteArray × (Int × (Int × (List Val))))
abbrev Nod := Int × (Val × (ByteArray × ByteArray))
abbrev Elm := ByteArray × ((List ByteArray) × (Bool × (Int × (Int × (List Nod)))))
abbrev Msg := Int × (Int × (Evt × (Int × (ByteArray × ((List Elm) × (Int × Int))))))
abbrev zV : Val := ((0 : Int), ((0 : Int), ((⟨#[]⟩ : ByteArray), false)))
/-- messages as the law makes them -/
structure Small (m : Msg) : Prop where
  key : m.2.2.1.2.1.size ≤ 6
  vals : m.2.2.1.2.2.2.2.length ≤ 3
  q : m.2.2.2.2.2.1 = []
theorem F88_self (l : List Val) (hl : l.length ≤ 8) (k : Nat) (hk : 12 ≤ k) (κ : Bool → Option Res) : F88 k l l κ = κ true := by
  obtain ⟨k, rfl⟩ : ∃ k', k = k' + 1 := ⟨k - 1, by omega⟩
  rw [F88, if_neg (by simp)]
  exact loop_all (κ true) l.length 0 (fun k j => L88_0 k κ l l (l.length : Int) (j : Int) fun v1 => κ true) (fun k j hk hj => by
    show L88_0 (k + 1) κ l l _ (j : Int) _ = _
    rw [L88_0]
    simp only [lt_t hj, rng hj, Int.toNat_natCast, wr hj (by omega), if_true, beq_toListBytes, beq_self_eq_true, Bool.and_self, decide_eq_true (Int.natCast_nonneg j), Bool.and_true, Bool.not_true, Bool.false_eq_true, if_false]) (fun k => by
    show L88_0 (k + 1) κ l l _ ((l.length : Nat) : Int) _ = _
    rw [L88_0]
    simp only [lt_f, Bool.false_eq_true, if_false]) l.length 0 k (by omega) (by omega)
theorem F61_self (m : Msg) (hm : Small m) (k : Nat) (hk : 20 ≤ k) (κ : Bool → Option Res) : F61 k m m κ = κ true := by
  obtain ⟨k, rfl⟩ : ∃ k', k = k' + 4 := ⟨k - 4, by omega⟩
  have h76 : ∀ κ : Bool → Option Res, F76 (k + 2) [] [] κ = κ true := fun κ => by
    rw [F76, if_neg (by simp), L76_0]
    rfl
  rw [F61, if_pos (by simp), if_pos (by simp), F82, if_pos (by simp), if_pos (by simp), if_pos (by simp), if_pos (by simp), F88_self _ (Nat.le_trans hm.vals (by omega)) _ (by omega), if_pos rfl, if_pos (by simp), if_pos (by simp), F28, if_pos (by simp), if_pos (by simp), hm.q, h76]
/-! parts -/
def fnvS (s : ByteArray) : Nat → Nat → Int → Int
  | 0, _, h => h
  | m + 1, j, h => fnvS s m (j + 1) (IntKind.wrap .u64 ((bits .xor .u64 h (IntKind.wrap .u64 (byteAt s (j : Int)))) * (1099511628211 : Int)))
def fnv (s : ByteArray) : Int := fnvS s s.size 0 14695981039346656037
theorem fnvS_nn (s : ByteArray) : ∀ (m j : Nat) (h : Int), 0 ≤ h → 0 ≤ fnvS s m j h
  | 0, _, h, hh => hh
  | m + 1, j, h, hh => fnvS_nn s m (j + 1) _ (by rw [IntKind.wrap_u64]; omega)
theorem L83_eq (s : ByteArray) (hs : s.size ≤ 100) (κ : Int → Option Res) (K : Int × Int → Option Res) : ∀ (m j k : Nat) (h : Int), j + m = s.size → m + 1 ≤ k → L83_0 k κ s h (s.size : Int) (j : Int) K = K (fnvS s m j h, (s.size : Int)) := by
  intro m
  induction m with
  | zero =>
    intro j k h hj hk
    obtain ⟨k, rfl⟩ : ∃ k', k = k' + 1 := ⟨k - 1, by omega⟩
    have : j = s.size := by omega
    subst this
    rw [L83_0]
    simp only [lt_f, Bool.false_eq_true, if_false]
    rfl
  | succ m ih =>
    intro j k h hj hk
    obtain ⟨k, rfl⟩ : ∃ k', k = k' + 1 := ⟨k - 1, by omega⟩
    have hlt : j < s.size := by omega
    rw [L83_0, if_pos (lt_t hlt), if_pos (rng hlt), wr hlt (by omega), ih (j + 1) k _ (by omega) (by omega)]
    rfl
def part (s : ByteArray) (N : Nat) : Int := Int.tmod (fnv s) (N : Int)
theorem part_rng (s : ByteArray) (N : Nat) (hN : 0 < N) : 0 ≤ part s N ∧ part s N < (N : Int) := by
  have h : 0 ≤ fnv s := fnvS_nn s _ _ _ (by decide)
  unfold part
  rw [Int.tmod_eq_emod_of_nonneg h]
  exact ⟨Int.emod_nonneg _ (by omega), Int.emod_lt_of_pos _ (by omega)⟩
/-- so many parts -/
def cap (n : Int) : Nat := (imin (imax n 1) 64).toNat
theorem cap_eq (n : Int) : imin (imax n 1) 64 = ((cap n : Nat) : Int) ∧ 1 ≤ cap n ∧ cap n ≤ 64 := by
  unfold cap
  rw [imin_eq, imax_eq]
  omega
theorem cap_cap (n : Int) : cap ((cap n : Nat) : Int) = cap n := by
  have h := cap_eq n
  have h2 := cap_eq ((cap n : Nat) : Int)
  rw [imin_eq, imax_eq] at h2
  omega
theorem F65_eq (s : ByteArray) (hs : s.size ≤ 6) (n : Int) (k : Nat) (hk : 12 ≤ k) (κ : Int → Option Res) : F65 k s n κ = κ (part s (cap n)) := by
  obtain ⟨k, rfl⟩ : ∃ k', k = k' + 2 := ⟨k - 2, by omega⟩
  obtain ⟨h1, h2, h3⟩ := cap_eq n
  have hw : IntKind.wrap .u64 (imin (imax n 1) 64) = ((cap n : Nat) : Int) := by rw [h1, IntKind.wrap_u64]; omega
  obtain ⟨h4, h5⟩ := part_rng s (cap n) (by omega)
  rw [F65, F83]
  refine (L83_eq s (by omega) _ _ s.size 0 k _ (by omega) (by omega)).trans ?_
  rw [hw, if_pos (by simp; omega)]
  show κ (IntKind.wrap .i64 (part s (cap n))) = _
  rw [wrap_small (by omega) (by omega)]
/-! targets -/
def tgt (m : Msg) (N : Nat) : List Int := if m.1 = 1 then [part m.2.2.1.2.1 N] else (List.range N).map fun i : Nat => (i : Int)
theorem F64_eq (k : Nat) (m : Msg) (κ : Bool → Option Res) : F64 (k + 1) m κ = κ (m.1 != 1) := by rw [F64]
def upto (N j : Nat) : List Int := (List.range N).map fun i : Nat => if i < j then (i : Int) else 0
theorem upto_len (N j : Nat) : (upto N j).length = N := by simp [upto]
theorem upto_set (N j : Nat) : (upto N j).set j (j : Int) = upto N (j + 1) := by
  apply List.ext_getElem?
  intro i
  unfold upto
  rw [List.getElem?_set, List.getElem?_map, List.getElem?_map]
  by_cases hi : i < N
  · rw [List.getElem?_range hi]
    by_cases hj : j = i
    · subst hj; simp [hi]
    · rw [if_neg hj]
      by_cases h1 : i < j
      · simp [h1, show i < j + 1 by omega]
      · simp [h1, show ¬ i < j + 1 by omega]
  · rw [List.getElem?_eq_none (l := List.range N) (by simp; omega)]
    by_cases hj : j = i
    · subst hj; simp; omega
    · rw [if_neg hj]; rfl
theorem L63_eq (N : Nat) (hN : N ≤ 64) (κ : List Int → Option Res) (K : List Int × Int → Option Res) (k : Nat) (hk : 70 ≤ k) :
    L63_0 k κ (List.replicate N 0) ((N : Nat) : Int) 0 K = K ((List.range N).map fun i : Nat => (i : Int), (N : Int)) := by
  have h0 : List.replicate N (0 : Int) = upto N 0 := by
    symm
    refine List.eq_replicate_iff.2 ⟨upto_len N 0, fun b hb => ?_⟩
    unfold upto at hb
    obtain ⟨i, _, e⟩ := List.mem_map.1 hb
    rw [← e]; simp
  have h1 : upto N N = (List.range N).map fun i : Nat => (i : Int) := by
    unfold upto
    exact List.map_congr_left fun i hi => by rw [if_pos (List.mem_range.1 hi)]
  rw [h0]
  refine (loop_all (K (upto N N, (N : Int))) N 0 (fun k j => L63_0 k κ (upto N j) (N : Int) (j : Int) K) (fun k j hk hj => ?_) (fun k => ?_) N 0 k (by omega) (by omega)).trans (by rw [h1])
  · show L63_0 (k + 1) κ (upto N j) _ (j : Int) K = _
    rw [L63_0, if_pos (lt_t hj), upto_len, if_pos (rng hj), Int.toNat_natCast, if_pos (decide_eq_true hj), upto_set, wr hj (by omega)]
  · show L63_0 (k + 1) κ (upto N N) _ ((N : Nat) : Int) K = _
    rw [L63_0]
    simp only [lt_f, Bool.false_eq_true, if_false]
theorem F63_eq (m : Msg) (hm : Small m) (n : Int) (k : Nat) (hk : 80 ≤ k) (κ : List Int → Option Res) : F63 k m n κ = κ (tgt m (cap n)) := by
  obtain ⟨k, rfl⟩ : ∃ k', k = k' + 2 := ⟨k - 2, by omega⟩
  obtain ⟨h1, h2, h3⟩ := cap_eq n
  rw [F63, F64_eq, h1]
  unfold tgt
  by_cases h : m.1 = 1
  · rw [if_pos (by simp [h]), F65_eq _ hm.key _ _ (by omega), cap_cap, if_pos h]
  · rw [if_neg (by simp [h]), if_neg h, if_pos (by simp; omega), Int.toNat_natCast, List.length_replicate, L63_eq _ h3 _ _ _ (by omega)]
/-- those of some places that are one -/
def hits (ts : List Int) (a : Int) (m : Msg) : List Msg := (ts.filter fun t => t == a).map fun _ => m
theorem hits_len (ts : List Int) (a : Int) (m : Msg) : (hits ts a m).length ≤ ts.length := by
  unfold hits; rw [List.length_map]; exact List.length_filter_le _ _
theorem hits_take (ts : List Int) (a : Int) (m : Msg) (j : Nat) (hj : j < ts.length) : hits (ts.take (j + 1)) a m = hits (ts.take j) a m ++ if (ts.getD j 0 == a) = true then [m] else [] := by
  unfold hits
  rw [List.take_add_one, List.filter_append, List.map_append, List.getD_eq_getElem?_getD, List.getElem?_eq_getElem hj]
  by_cases h : (ts[j] == a) = true
  · simp [h]
  · simp [h]
theorem L66_1_eq (a n : Int) (acc x : List Msg) (e1 e2 : Int) (ts : List Int) (m : Msg) (ht : ts.length ≤ 64) (ha : acc.length ≤ 2000) (k : Nat) (hk : 70 ≤ k) (κ : List Msg → Option Res) (K : List Msg × Int → Option Res) :
    L66_1 k κ a n acc x e1 e2 ts (ts.length : Int) 0 m.1 m.2.1 m.2.2.1.1 m.2.2.1.2.1 m.2.2.1.2.2.1 m.2.2.1.2.2.2.1 m.2.2.1.2.2.2.2 m.2.2.2.1 m.2.2.2.2.1 m.2.2.2.2.2.1 m.2.2.2.2.2.2.1 m.2.2.2.2.2.2.2 K = K (acc ++ hits ts a m, (ts.length : Int)) := by
  refine (congrArg (fun l => L66_1 k κ a n l x e1 e2 ts (ts.length : Int) 0 m.1 m.2.1 m.2.2.1.1 m.2.2.1.2.1 m.2.2.1.2.2.1 m.2.2.1.2.2.2.1 m.2.2.1.2.2.2.2 m.2.2.2.1 m.2.2.2.2.1 m.2.2.2.2.2.1 m.2.2.2.2.2.2.1 m.2.2.2.2.2.2.2 K) (List.append_nil acc).symm).trans ?_
  refine (loop_all (K (acc ++ hits ts a m, (ts.length : Int))) ts.length 0 (fun k j => L66_1 k κ a n (acc ++ hits (ts.take j) a m) x e1 e2 ts (ts.length : Int) (j : Int) m.1 m.2.1 m.2.2.1.1 m.2.2.1.2.1 m.2.2.1.2.2.1 m.2.2.1.2.2.2.1 m.2.2.1.2.2.2.2 m.2.2.2.1 m.2.2.2.2.1 m.2.2.2.2.2.1 m.2.2.2.2.2.2.1 m.2.2.2.2.2.2.2 K) (fun k j hk hj => ?_) (fun k => ?_) ts.length 0 k (by omega) (by omega))
  · show L66_1 (k + 1) κ a n (acc ++ hits (ts.take j) a m) x e1 e2 ts _ (j : Int) _ _ _ _ _ _ _ _ _ _ _ _ K = _
    have hl := hits_len (ts.take j) a m
    rw [List.length_take] at hl
    rw [L66_1, if_pos (lt_t hj), if_pos (rng hj), Int.toNat_natCast, hits_take ts a m j hj, wr hj (by omega)]
    by_cases h : (ts.getD j 0 == a) = true
    · rw [if_pos h, if_pos h, if_pos (decide_eq_true (by rw [List.length_append]; simp; omega)), List.append_assoc]
    · rw [if_neg h, if_neg h, List.append_nil]
  · show L66_1 (k + 1) κ a n (acc ++ hits (ts.take ts.length) a m) x e1 e2 ts _ ((ts.length : Nat) : Int) _ _ _ _ _ _ _ _ _ _ _ _ K = _
    rw [L66_1, List.take_length]
    simp only [lt_f, Bool.false_eq_true, if_false]
end Go.Proofs.Ytcnoaflojojfkaa.MsgG
