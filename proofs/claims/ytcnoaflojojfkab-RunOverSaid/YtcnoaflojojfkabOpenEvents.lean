/- Slices of events that came in. No condition. -/
import Derived.Test.YtcnoaflojojfkabOpen
namespace Go.Proofs.Ytcnoaflojojfkab
open Go.ChangeShapes Go.WideShapes Go.ChangeAt Go.RowKit Go.Deep
set_option linter.unusedVariables false
set_option maxRecDepth 100000
section
variable {H : Type} {enc : TypeId × Value → H} {W : World} {base : Nat} {spare : Nat → Bool} {held : Bool}
theorem some_at {α : Type} {l : List α} {i n : Nat} (h : l.length = n) (hi : i < n) : ∃ y, l[i]? = some y := ⟨_, List.getElem?_eq_getElem (by omega)⟩
theorem cells_int : Try.prog.cellsOf 3 = 1 := by kernel_rfl
theorem cells_int64 : Try.prog.cellsOf 2 = 1 := by kernel_rfl
theorem cells_str : Try.prog.cellsOf 9 = 1 := by kernel_rfl
theorem cells_bool : Try.prog.cellsOf 4 = 1 := by kernel_rfl
theorem cells_vals : Try.prog.cellsOf 77 = 1 := by kernel_rfl
theorem cells_value : Try.prog.cellsOf 137 = 4 := by kernel_rfl
theorem cells_event : Try.prog.cellsOf 79 = 5 := by kernel_rfl
theorem wf64 {x : Int} (h : (Lit.int .i64 x).wf = true) : -9223372036854775808 ≤ x ∧ x ≤ 9223372036854775807 := by simpa [Lit.wf, IntKind.min, IntKind.max, IntKind.signed, IntKind.bits] using h
theorem each_value (n : Nat) (cs : List Value) (y : DataW H × List MemPlace) (hl : cs.length = 4) (h : DataW.trod enc Try.prog W base spare held n 137 cs = some y) : ∃ x : Vl, cs = x.cells ∧ True := by
  match cs, hl with
  | [c0, c1, c2, c3], _ =>
    obtain ⟨xs, m, _, _, _, hlen, hf⟩ := DataW.trod_struct Try.underlying137 h
    have hlen4 : xs.length = 4 := hlen
    have h0 : DataW.trod enc Try.prog W base spare held m 3 (([c0, c1, c2, c3].drop 0).take (Try.prog.cellsOf 3)) = xs[0]? := hf 0 _ rfl
    have h1 : DataW.trod enc Try.prog W base spare held m 2 (([c0, c1, c2, c3].drop 1).take (Try.prog.cellsOf 2)) = xs[1]? := hf 1 _ rfl
    have h2 : DataW.trod enc Try.prog W base spare held m 9 (([c0, c1, c2, c3].drop 2).take (Try.prog.cellsOf 9)) = xs[2]? := hf 2 _ rfl
    have h3 : DataW.trod enc Try.prog W base spare held m 4 (([c0, c1, c2, c3].drop 3).take (Try.prog.cellsOf 4)) = xs[3]? := hf 3 _ rfl
    obtain ⟨y0, e0⟩ := some_at hlen4 (show 0 < 4 by omega)
    obtain ⟨y1, e1⟩ := some_at hlen4 (show 1 < 4 by omega)
    obtain ⟨y2, e2⟩ := some_at hlen4 (show 2 < 4 by omega)
    obtain ⟨y3, e3⟩ := some_at hlen4 (show 3 < 4 by omega)
    rw [e0] at h0; rw [e1] at h1; rw [e2] at h2; rw [e3] at h3
    simp only [cells_int, cells_int64, cells_str, cells_bool, List.drop_zero, List.drop_succ_cons, List.take_succ_cons, List.take_zero] at h0 h1 h2 h3
    obtain ⟨z0, k0, _, _⟩ := DataW.trod_int Try.underlying3 h0
    obtain ⟨z1, k1, _, _⟩ := DataW.trod_int Try.underlying2 h1
    obtain ⟨z2, k2, _, _⟩ := DataW.trod_string Try.underlying9 h2
    obtain ⟨z3, k3, _⟩ := DataW.trod_bool Try.underlying4 h3
    simp only [List.cons.injEq, and_true] at k0 k1 k2 k3
    subst k0 k1 k2 k3
    exact ⟨⟨z0, z1, z2, z3⟩, rfl, trivial⟩
theorem each_event (n : Nat) (cs : List Value) (y : DataW H × List MemPlace) (hl : cs.length = 5) (h : DataW.trod enc Try.prog W base spare held n 79 cs = some y) : ∃ x : Ev, cs = x.cells ∧ EvOk W x := by
  match cs, hl with
  | [c0, c1, c2, c3, c4], _ =>
    obtain ⟨xs, m, _, _, _, hlen, hf⟩ := DataW.trod_struct Try.underlying79 h
    have hlen5 : xs.length = 5 := hlen
    have h0 : DataW.trod enc Try.prog W base spare held m 9 (([c0, c1, c2, c3, c4].drop 0).take (Try.prog.cellsOf 9)) = xs[0]? := hf 0 _ rfl
    have h1 : DataW.trod enc Try.prog W base spare held m 9 (([c0, c1, c2, c3, c4].drop 1).take (Try.prog.cellsOf 9)) = xs[1]? := hf 1 _ rfl
    have h2 : DataW.trod enc Try.prog W base spare held m 2 (([c0, c1, c2, c3, c4].drop 2).take (Try.prog.cellsOf 2)) = xs[2]? := hf 2 _ rfl
    have h3 : DataW.trod enc Try.prog W base spare held m 2 (([c0, c1, c2, c3, c4].drop 3).take (Try.prog.cellsOf 2)) = xs[3]? := hf 3 _ rfl
    have h4 : DataW.trod enc Try.prog W base spare held m 77 (([c0, c1, c2, c3, c4].drop 4).take (Try.prog.cellsOf 77)) = xs[4]? := hf 4 _ rfl
    obtain ⟨y0, e0⟩ := some_at hlen5 (show 0 < 5 by omega)
    obtain ⟨y1, e1⟩ := some_at hlen5 (show 1 < 5 by omega)
    obtain ⟨y2, e2⟩ := some_at hlen5 (show 2 < 5 by omega)
    obtain ⟨y3, e3⟩ := some_at hlen5 (show 3 < 5 by omega)
    obtain ⟨y4, e4⟩ := some_at hlen5 (show 4 < 5 by omega)
    rw [e0] at h0; rw [e1] at h1; rw [e2] at h2; rw [e3] at h3; rw [e4] at h4
    simp only [cells_int64, cells_str, cells_vals, List.drop_zero, List.drop_succ_cons, List.take_succ_cons, List.take_zero] at h0 h1 h2 h3 h4
    obtain ⟨z0, k0, _, _⟩ := DataW.trod_string Try.underlying9 h0
    obtain ⟨z1, k1, _, _⟩ := DataW.trod_string Try.underlying9 h1
    obtain ⟨z2, k2, _, w2⟩ := DataW.trod_int Try.underlying2 h2
    obtain ⟨z3, k3, _, w3⟩ := DataW.trod_int Try.underlying2 h3
    simp only [List.cons.injEq, and_true] at k0 k1 k2 k3
    subst k0 k1 k2 k3
    obtain ⟨va, vn, vc, rfl⟩ : ∃ va vn vc, c4 = .slice va vn vc := by
      rcases open_slice Try.underlying77 h4 with ⟨h, _⟩ | ⟨x, l, c, _, _, _, _, h, _⟩
      · exact ⟨_, _, _, by simpa using h⟩
      · exact ⟨_, _, _, by simpa using h⟩
    obtain ⟨vs, v1, v2, v3, _⟩ := open_recs Vl.len (by omega) (Q := fun _ => True) Try.underlying77 cells_value (fun n cs y => each_value n cs y) h4
    exact ⟨⟨z0, z1, z2, z3, va, vn, vc⟩, rfl, v2, wf64 w2, wf64 w3, vs, v1, v3⟩
/-- a slice of events that came in -/
theorem open_events {a : Option Addr} {len cap : Nat} {d : DataW H} {ps : List MemPlace} {ts : List TypeId} {ds : List (DataW H)} {j : Nat}
    (hsz : (DataW.weightsEach Try.prog ts ds).all (· ≤ reachBytes) = true) (ht : ts[j]? = some 64) (hd : ds[j]? = some d)
    (h : DataW.Trod enc Try.prog W base spare held 64 (.slice a len cap) d ps) : ∃ xs : List Ev, len = xs.length ∧ Reads W 5 (.slice a len cap) xs.length (xs.flatMap Ev.cells) ∧ (∀ x ∈ xs, EvOk W x) ∧ xs.length ≤ maxLen := by
  obtain ⟨fuel, hf⟩ := h
  obtain ⟨xs, h1, h2, h3, h4⟩ := open_recs Ev.len (by omega) (Q := EvOk W) Try.underlying64 cells_event (fun n cs y => each_event n cs y) hf
  subst h1
  exact ⟨xs, rfl, h3, h4, h2⟩
end
end Go.Proofs.Ytcnoaflojojfkab
