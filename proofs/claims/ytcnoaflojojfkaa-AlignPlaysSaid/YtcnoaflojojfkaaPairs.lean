/- A slice of pairs of whole numbers that came in. No condition. -/
import Derived.Test.YtcnoaflojojfkaaRowLib
import Derived.Test.YtcnoaflojojfkaaAlignPlays
import Derived.Deep.Slices
namespace Go.Proofs.Ytcnoaflojojfkaa
open Go.ChangeShapes Go.WideShapes Go.ChangeAt Go.RowKit
open Go.Proofs.Ytcnoaflojojfkaa.AlignPlays Go.Deep
set_option linter.unusedVariables false
theorem cells2_at (ps : List (Int × Int)) : ∀ (j : Nat) (u : Value), (cells2 ps)[j]? = some u → ∃ p, ps[j / 2]? = some p ∧ ((j % 2 = 0 ∧ u = .int .i64 p.1) ∨ (j % 2 = 1 ∧ u = .int .i64 p.2)) := by
  induction ps with
  | nil => intro j u h; cases h
  | cons q ps ih =>
    intro j u h
    have e : cells2 (q :: ps) = .int .i64 q.1 :: .int .i64 q.2 :: cells2 ps := rfl
    rw [e] at h
    match j, h with
    | 0, h => exact ⟨q, rfl, .inl ⟨rfl, by simpa using h.symm⟩⟩
    | 1, h => exact ⟨q, rfl, .inr ⟨rfl, by simpa using h.symm⟩⟩
    | j + 2, h =>
      obtain ⟨p, h1, h2⟩ := ih j u (by simpa using h)
      refine ⟨p, ?_, ?_⟩
      · rw [show (j + 2) / 2 = j / 2 + 1 by omega]; simpa using h1
      · rw [show (j + 2) % 2 = j % 2 by omega]; exact h2
theorem cells2_length (ps : List (Int × Int)) : (cells2 ps).length = ps.length * 2 := by
  induction ps with
  | nil => rfl
  | cons q ps ih =>
    have e : cells2 (q :: ps) = .int .i64 q.1 :: .int .i64 q.2 :: cells2 ps := rfl
    rw [e]; simp [ih]; omega
theorem open_pairs_reads {H : Type} {enc : TypeId × Value → H} {P : Program} {W : World} {base : Nat} {spare : Nat → Bool} {held : Bool} {t e f : TypeId} {a : Option Addr} {len cap : Nat} {d : DataW H} {ps : List MemPlace} {ts : List TypeId} {ds : List (DataW H)} {j : Nat}
    (hsz : (DataW.weightsEach P ts ds).all (· ≤ reachBytes) = true) (ht : ts[j]? = some t) (hd : ds[j]? = some d) (hu : P.underlying t = some (.slice e)) (he : P.underlying e = some (.array 2 f)) (hfk : P.underlying f = some (.int .i64)) (hc : P.cellsOf e = 2) (hcf : P.cellsOf f = 1) (hB : P.bytesOf e = 16)
    (h : DataW.Trod enc P W base spare held t (.slice a len cap) d ps) :
    ∃ xs : List (Int × Int), len = xs.length ∧ Reads W 2 (.slice a len cap) xs.length (cells2 xs) ∧ xs.length * 16 ≤ 140737488351232 := by
  obtain ⟨fuel, hf⟩ := h
  rcases open_slice hu hf with ⟨hcs, _⟩ | ⟨x, l, c, m, n, D, Pl, hcs, _, hl, _, hm, hx, hel⟩
  · simp [Value.cells] at hcs
    obtain ⟨rfl, rfl, rfl⟩ := hcs
    exact ⟨[], rfl, Reads.nil W 2, by simp⟩
  · simp [Value.cells] at hcs
    obtain ⟨rfl, rfl, rfl⟩ := hcs
    obtain ⟨hx, _⟩ := Prod.mk.inj hx
    subst hx
    have hlm : len ≤ m := by rw [hm]; split <;> omega
    have each : ∀ i, ∃ p : Int × Int, i < m → W.cell? (x.add (i * 2)) = some (.int .i64 p.1) ∧ W.cell? (x.add (i * 2 + 1)) = some (.int .i64 p.2) := by
      intro i
      by_cases hi : i < m
      · obtain ⟨cs', h1, h2⟩ := hel i hi
        rw [hc] at h1
        obtain ⟨_, hl2, hcell⟩ := World.cells?_some h1
        obtain ⟨ys, m', _, _, _, _, hy⟩ := DataW.trod_array he h2
        have g : ∀ k, k < 2 → ∃ z, W.cell? ((x.add (i * 2)).add k) = some (.int .i64 z) := by
          intro k hk
          have hk2 := hy k hk
          rw [hcf, Nat.mul_one] at hk2
          have hlen : k < ys.length := by omega
          rw [List.getElem?_eq_getElem hlen] at hk2
          obtain ⟨z, hz, _, _⟩ := DataW.trod_int hfk hk2
          refine ⟨z, ?_⟩
          rw [hcell k hk]
          have := congrArg (fun l => l[0]?) hz
          simpa [List.getElem?_take, List.getElem?_drop] using this
        obtain ⟨z0, g0⟩ := g 0 (by omega)
        obtain ⟨z1, g1⟩ := g 1 (by omega)
        rw [add_add] at g0 g1
        exact ⟨(z0, z1), fun _ => ⟨g0, g1⟩⟩
      · exact ⟨(0, 0), fun h => absurd h hi⟩
    obtain ⟨F, hF⟩ := Classical.axiomOfChoice each
    have hlen : ((List.range len).map F).length = len := by simp
    refine ⟨(List.range len).map F, hlen.symm, ?_, ?_⟩
    · refine ⟨by rw [cells2_length], some x, cap, by rw [hlen], by omega, ?_⟩
      by_cases h0 : len = 0
      · left; subst h0; rfl
      · right
        have hs : x.spot = none := by
          have hcell0 := (hF 0 (by omega)).1
          have hx0 : x.add (0 * 2) = x := by unfold Addr.add; simp
          rw [hx0] at hcell0
          unfold World.cell? at hcell0
          split at hcell0
          · split at hcell0
            · cases hcell0
            · rename_i hsp
              simpa using hsp
          · cases hcell0
        obtain ⟨xb, xo, xs⟩ := x
        obtain rfl : xs = none := hs
        refine ⟨xb, xo, rfl, fun i u hu => ?_⟩
        obtain ⟨p, hp, hv⟩ := cells2_at _ i u hu
        have hi2 : i / 2 < len := by
          have h1 := (List.getElem?_eq_some_iff.1 hu).1
          rw [cells2_length, hlen] at h1; omega
        rw [List.getElem?_map, List.getElem?_range hi2] at hp
        simp at hp
        have hFi := hF (i / 2) (by omega)
        rw [addr_add, addr_add, hp] at hFi
        rcases hv with ⟨h1, rfl⟩ | ⟨h1, rfl⟩
        · rw [show i = i / 2 * 2 by omega]; exact hFi.1
        · rw [show xo + i = xo + (i / 2 * 2 + 1) by omega]; exact hFi.2
    · have z := sized_slice hsz ht hd hu
      rw [hB] at z
      simp at z
      rw [hlen]
      have : reachBytes = 140737488351232 := by first | rfl | decide
      exact Nat.le_trans (Nat.mul_le_mul_right _ (by omega : len ≤ len + (m - len))) (by omega)
end Go.Proofs.Ytcnoaflojojfkaa
