/- Slices of records that came in, whatever the records hold: values, events. No condition. -/
import Derived.Test.YtcnoaflojojfkabRowLib
import Derived.Test.YtcnoaflojojfkabRecs
import Derived.Deep.Slices
namespace Go.Proofs.Ytcnoaflojojfkab
open Go.ChangeShapes Go.WideShapes Go.ChangeAt Go.RowKit Go.Deep
set_option linter.unusedVariables false
section
variable {H : Type} {enc : TypeId × Value → H} {P : Program} {W : World} {base : Nat} {spare : Nat → Bool} {held : Bool}
/-- A slice of records that came in: each record's cells are those of some x of which Q holds. -/
theorem open_recs {α : Type} [Inhabited α] {f : α → List Value} {s : Nat} (hf : ∀ a, (f a).length = s) (hs : 0 < s) {Q : α → Prop} {t e : TypeId} {fuel : Nat} {a : Option Addr} {len cap : Nat} {dd : DataW H × List MemPlace}
    (hu : P.underlying t = some (.slice e)) (hc : P.cellsOf e = s) (each : ∀ (n : Nat) (cs : List Value) (y : DataW H × List MemPlace), cs.length = s → DataW.trod enc P W base spare held n e cs = some y → ∃ x, cs = f x ∧ Q x)
    (h : DataW.trod enc P W base spare held fuel t [.slice a len cap] = some dd) : ∃ xs : List α, xs.length = len ∧ len ≤ maxLen ∧ Reads W s (.slice a len cap) len (xs.flatMap f) ∧ ∀ x ∈ xs, Q x := by
  rcases open_slice hu h with ⟨hcs, _⟩ | ⟨x, l, c, m, n, D, Pl, hcs, _, hl, hcm, hm, hx, hel⟩
  · simp at hcs
    obtain ⟨rfl, rfl, rfl⟩ := hcs
    exact ⟨[], rfl, Nat.zero_le _, by simpa using Reads.nil W s, fun x hx => by cases hx⟩
  · simp at hcs
    obtain ⟨rfl, rfl, rfl⟩ := hcs
    have hlm : len ≤ m := by rw [hm]; split <;> omega
    have get : ∀ i, ∃ p : α, i < m → Q p ∧ ∀ k, k < s → W.cell? ((x.add (i * s)).add k) = (f p)[k]? := by
      intro i
      by_cases hi : i < m
      · obtain ⟨cs', h1, h2⟩ := hel i hi
        rw [hc] at h1
        obtain ⟨_, hl2, hcell⟩ := World.cells?_some h1
        obtain ⟨p, rfl, hq⟩ := each n cs' _ hl2 h2
        exact ⟨p, fun _ => ⟨hq, fun k hk => hcell k hk⟩⟩
      · exact ⟨default, fun h => absurd h hi⟩
    obtain ⟨F, hF⟩ := Classical.axiomOfChoice get
    have hlen : ((List.range len).map F).length = len := by simp
    refine ⟨(List.range len).map F, hlen, by omega, ?_, ?_⟩
    · refine ⟨by rw [recs_len hf, hlen], some x, cap, rfl, hl, ?_⟩
      by_cases h0 : len = 0
      · left; subst h0; rfl
      · right
        have hsp : x.spot = none := by
          have hcell0 := (hF 0 (by omega)).2 0 hs
          have hx0 : (x.add (0 * s)).add 0 = x := by rw [Nat.zero_mul]; unfold Addr.add; simp
          rw [hx0] at hcell0
          have h1 : (f (F 0))[0]? = some ((f (F 0))[0]'(by rw [hf]; exact hs)) := List.getElem?_eq_getElem _
          rw [h1] at hcell0
          unfold World.cell? at hcell0
          split at hcell0
          · split at hcell0
            · cases hcell0
            · rename_i hsp
              simpa using hsp
          · cases hcell0
        obtain ⟨xb, xo, xs⟩ := x
        obtain rfl : xs = none := hsp
        refine ⟨xb, xo, rfl, fun j u hj => ?_⟩
        have hjl : j < len * s := by
          have := (List.getElem?_eq_some_iff.1 hj).1
          rw [recs_len hf, hlen] at this; exact this
        have hi2 : j / s < len := (Nat.div_lt_iff_lt_mul hs).2 hjl
        have hk2 : j % s < s := Nat.mod_lt _ hs
        have hdm : j / s * s + j % s = j := Nat.div_add_mod' j s
        have hp : ((List.range len).map F)[j / s]? = some (F (j / s)) := by rw [List.getElem?_map, List.getElem?_range hi2]; rfl
        have hg := recs_get hf hp hk2
        rw [hdm] at hg
        have := (hF (j / s) (by omega)).2 (j % s) hk2
        rw [addr_add, addr_add, Nat.add_assoc, hdm, ← hg, hj] at this
        exact this
    · intro y hy
      obtain ⟨i, hi, rfl⟩ := List.mem_map.1 hy
      exact (hF i (by have := List.mem_range.1 hi; omega)).1
end

/-- a value -/
structure Vl where
  kind : Int
  i : Int
  s : ByteArray
  b : Bool
instance : Inhabited Vl := ⟨⟨0, 0, ⟨#[]⟩, false⟩⟩
def Vl.cells (v : Vl) : List Value := [.int .i64 v.kind, .int .i64 v.i, .string v.s, .bool v.b]
theorem Vl.len (v : Vl) : v.cells.length = 4 := rfl
/-- an event -/
structure Ev where
  typ : ByteArray
  key : ByteArray
  time : Int
  seq : Int
  va : Option Addr
  vn : Nat
  vc : Nat
instance : Inhabited Ev := ⟨⟨⟨#[]⟩, ⟨#[]⟩, 0, 0, none, 0, 0⟩⟩
def Ev.cells (e : Ev) : List Value := [.string e.typ, .string e.key, .int .i64 e.time, .int .i64 e.seq, .slice e.va e.vn e.vc]
theorem Ev.len (e : Ev) : e.cells.length = 5 := rfl
/-- an event whose values can be read -/
def EvOk (W : World) (e : Ev) : Prop := e.vn ≤ maxLen ∧ (-9223372036854775808 ≤ e.time ∧ e.time ≤ 9223372036854775807) ∧ (-9223372036854775808 ≤ e.seq ∧ e.seq ≤ 9223372036854775807) ∧ ∃ vs : List Vl, vs.length = e.vn ∧ Reads W 4 (.slice e.va e.vn e.vc) e.vn (vs.flatMap Vl.cells)
end Go.Proofs.Ytcnoaflojojfkab
