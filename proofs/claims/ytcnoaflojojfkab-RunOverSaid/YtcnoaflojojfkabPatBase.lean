/- A query's elements in memory, and what pat.Next and Last tell of them. No condition. -/
import Derived.Test.YtcnoaflojojfkabRecs
namespace Go.Proofs.Ytcnoaflojojfkab.Pat
open Go.RowKit
set_option linter.unusedVariables false
set_option linter.unusedSimpArgs false
set_option maxRecDepth 100000

/-- an element, as it lies in memory -/
structure El where
  var : ByteArray
  ta : Option Addr
  tn : Nat
  tc : Nat
  neg : Bool
  mn : Int
  mx : Int
  pa : Option Addr
  pn : Nat
  pc : Nat
def El.cells (e : El) : List Value := [.string e.var, .slice e.ta e.tn e.tc, .bool e.neg, .int .i64 e.mn, .int .i64 e.mx, .slice e.pa e.pn e.pc]
theorem El.len (e : El) : e.cells.length = 6 := rfl
def qcells (es : List El) : List Value := es.flatMap El.cells
theorem qcells_len (es : List El) : (qcells es).length = es.length * 6 := recs_len El.len es

/-- how many elements that must not be there stand from a place on -/
def negs (es : List El) (s : Nat) : Nat := ((es.drop s).takeWhile El.neg).length
theorem negs_end {es : List El} {s : Nat} (h : es.length ≤ s) : negs es s = 0 := by unfold negs; rw [List.drop_of_length_le h]; rfl
theorem drop_at {α : Type} {l : List α} {s : Nat} {a : α} (h : l[s]? = some a) : l.drop s = a :: l.drop (s + 1) := by
  obtain ⟨hs, rfl⟩ := List.getElem?_eq_some_iff.1 h
  exact List.drop_eq_getElem_cons hs
theorem negs_stop {es : List El} {s : Nat} {e : El} (h : es[s]? = some e) (hn : e.neg = false) : negs es s = 0 := by
  unfold negs; rw [drop_at h, List.takeWhile_cons, hn]; rfl
theorem negs_go {es : List El} {s : Nat} {e : El} (h : es[s]? = some e) (hn : e.neg = true) : negs es s = negs es (s + 1) + 1 := by
  unfold negs; rw [drop_at h, List.takeWhile_cons, hn]; rfl
theorem negs_le (es : List El) (s : Nat) : negs es s + s ≤ es.length ∨ negs es s = 0 := by
  by_cases h : es.length ≤ s
  · exact .inr (negs_end h)
  · left
    have h1 := List.takeWhile_prefix (l := es.drop s) El.neg |>.length_le
    rw [List.length_drop] at h1
    unfold negs; omega
/-- the next element that must be there, from a place on; -1: none -/
def nextOf (es : List El) (s : Nat) : Int := if s + negs es s < es.length then ((s + negs es s : Nat) : Int) else -1
theorem nextOf_go {es : List El} {s : Nat} {e : El} (h : es[s]? = some e) (hn : e.neg = true) : nextOf es s = nextOf es (s + 1) := by
  unfold nextOf; rw [negs_go h hn, show s + (negs es (s + 1) + 1) = s + 1 + negs es (s + 1) by omega]
theorem nextOf_stop {es : List El} {s : Nat} {e : El} (h : es[s]? = some e) (hn : e.neg = false) : nextOf es s = s := by
  have := (List.getElem?_eq_some_iff.1 h).1
  unfold nextOf; rw [negs_stop h hn, if_pos (by omega), Nat.add_zero]
theorem nextOf_end {es : List El} {s : Nat} (h : es.length ≤ s) : nextOf es s = -1 := by unfold nextOf; rw [negs_end h, if_neg (by omega)]
/-- the last element that must be there, of the first so many; -1: none -/
def lastOf (es : List El) : Nat → Int
  | 0 => -1
  | k + 1 => match es[k]? with
    | some e => if e.neg then lastOf es k else k
    | none => lastOf es k
theorem lastOf_neg {es : List El} {k : Nat} {e : El} (h : es[k]? = some e) (hn : e.neg = true) : lastOf es (k + 1) = lastOf es k := by simp [lastOf, h, hn]
theorem lastOf_pos {es : List El} {k : Nat} {e : El} (h : es[k]? = some e) (hn : e.neg = false) : lastOf es (k + 1) = k := by simp [lastOf, h, hn]

/-- a query: its value, and its elements in memory -/
def QIs (w : World) (q : Value) (es : List El) : Prop := ∃ a c win cap, q = .agg #[.slice a es.length c, .int .i64 win, .int .i64 cap] ∧ Reads w 6 (.slice a es.length c) es.length (qcells es)

theorem next_any (a : Option Addr) (c : Nat) (win cap : Value) (es : List El) (at_ : Int) (hr : -9223372036854775808 ≤ at_ ∧ at_ ≤ 9223372036854775807) (w : World) (hR : Reads w 6 (.slice a es.length c) es.length (qcells es)) (hl : es.length ≤ 1000) :
    Calls Try.prog 80 #[.agg #[.slice a es.length c, win, cap], .int .i64 at_] w fun e w' => e = .returned (.int .i64 (nextOf es (at_ + 1).toNat)) ∧ Fr [] w w' := by
  by_cases hn : (es.length : Int) ≤ at_
  · have hd : decide (at_ < (es.length : Int)) = false := decide_eq_false (by omega)
    have HE : Hid (nextOf es (at_ + 1).toNat = -1) := nextOf_end (by omega)
    clear hR hn
    go_enter Try.func80, Try.ntmps80
    go_wp2_with (fail)
    refine wp_loop_rounds 1 ?_
    rw [rounds_succ]
    go_wp2_with fail
    all_goals
      go_ret
      exact ⟨ret_int HE.out.symm, (Fr.refl [] w).alloc _⟩
  · obtain ⟨s, hs⟩ : ∃ s : Nat, s = (at_ + 1).toNat := ⟨_, rfl⟩
    have hw1 : wrap64 (at_ + 1) = at_ + 1 := wrap64_small (by omega) (by omega)
    have hm : imax (at_ + 1) 0 = (s : Int) := by rw [imax_eq]; omega
    have hd : decide (at_ < (es.length : Int)) = true := decide_eq_true (by omega)
    rw [← hs]
    have HR : Hid (Reads w 6 (.slice a es.length c) es.length (qcells es)) := hR
    have hsl : s ≤ es.length := by omega
    clear hR hs hn hr
    go_enter Try.func80, Try.ntmps80
    go_wp2_with (fail)
    try rw [hw1, hm]
    clear hw1 hm
    go_loopw [5] (fun v5 wr => ∃ k : Nat, k ≤ es.length ∧ v5 = .int .i64 k ∧ nextOf es k = nextOf es s ∧ wr = w.alloc (.cells #[.slice a es.length c, win, cap] 67)) (fun v5 _ => es.length - (intOf v5).toNat)
    case atStart => exact ⟨s, hsl, rfl, rfl, rfl⟩
    case round =>
      obtain ⟨k, hk, rfl, he, rfl⟩ := hrel
      have HE := Lib.hid he
      clear he
      by_cases hkl : k < es.length
      · obtain ⟨e, hy⟩ : ∃ e, es[k]? = some e := ⟨es[k], by simp [hkl]⟩
        obtain ⟨b, o, rfl⟩ := HR.out.rec_addr El.len (by omega) hy
        have hc : w.cell? ⟨b, o + k * 6 + 2, none⟩ = some (.bool e.neg) := HR.out.rec El.len hy rfl
        have hc2 := (World.cell?_alloc_lt w (.cells #[.slice (some ⟨b, o, none⟩) es.length c, win, cap] 67) _ (World.block_lt_of_cell? w _ hc)).trans hc
        clear hc
        cases hn : e.neg with
        | true =>
          have HN : Hid (nextOf es (k + 1) = nextOf es s) := (nextOf_go hy hn).symm.trans HE.out
          rw [hn] at hc2
          clear hy hn
          go_wp2_with fail
          go_roundw
          case rel => exact ⟨k + 1, by omega, by go_num, HN.out, by first | rfl | trivial⟩
          case measure => simp [intOf]; omega
        | false =>
          have HN : Hid ((k : Int) = nextOf es s) := (nextOf_stop hy hn).symm.trans HE.out
          rw [hn] at hc2
          clear hy hn
          go_wp2_with fail
          go_ret
          exact ⟨ret_int HN.out, (Fr.refl [] w).alloc _⟩
      · have HN : Hid (-1 = nextOf es s) := by
          have := HE.out
          rw [nextOf_end (by omega)] at this; exact this
        go_wp2_with fail
        go_ret
        exact ⟨ret_int HN.out, (Fr.refl [] w).alloc _⟩

theorem info_int : (Try.prog.info? 3).map (fun i => (i.zero, i.size, i.bytes)) = some (some (.int .i64 0), 1, 8) := by kernel_rfl
theorem View_low {w : World} {B B' : Nat} {e : TypeId} {size n : Nat} {v : Value} {xs : List Value} (h : View w B e size v n xs) (hB : B' ≤ B) : View w B' e size v n xs := by
  obtain ⟨hl, h | ⟨g, off, cap, cs, rfl, hb, r⟩⟩ := h
  · exact ⟨hl, .inl h⟩
  · exact ⟨hl, .inr ⟨g, off, cap, cs, rfl, by omega, r⟩⟩

theorem last_any (a : Option Addr) (c : Nat) (win cap : Value) (es : List El) (w : World) (hR : Reads w 6 (.slice a es.length c) es.length (qcells es)) (hl : es.length ≤ 1000) :
    Calls Try.prog 91 #[.agg #[.slice a es.length c, win, cap]] w fun e w' => e = .returned (.int .i64 (lastOf es es.length)) ∧ Fr [] w w' := by
  have HR : Hid (Reads w 6 (.slice a es.length c) es.length (qcells es)) := hR
  clear hR
  go_enter Try.func91, Try.ntmps91
  go_wp2_with (fail)
  go_loopw [3] (fun v3 wr => ∃ k : Nat, k ≤ es.length ∧ v3 = .int .i64 ((k : Int) - 1) ∧ lastOf es k = lastOf es es.length ∧ wr = w.alloc (.cells #[.slice a es.length c, win, cap] 67)) (fun v3 _ => (intOf v3 + 1).toNat)
  case atStart => refine ⟨es.length, Nat.le_refl _, ?_, ?_, ?_⟩ <;> rfl
  case round =>
    obtain ⟨k, hk, rfl, he, rfl⟩ := hrel
    have HE := Lib.hid he
    clear he
    cases k with
    | succ k =>
      have hkl : k < es.length := by omega
      have e1 : (((k + 1 : Nat) : Int) - 1) = (k : Int) := by omega
      rw [e1]
      clear e1
      obtain ⟨e, hy⟩ : ∃ e, es[k]? = some e := ⟨es[k], by simp [hkl]⟩
      obtain ⟨b, o, rfl⟩ := HR.out.rec_addr El.len (by omega) hy
      have hc : w.cell? ⟨b, o + k * 6 + 2, none⟩ = some (.bool e.neg) := HR.out.rec El.len hy rfl
      have hc2 := (World.cell?_alloc_lt w (.cells #[.slice (some ⟨b, o, none⟩) es.length c, win, cap] 67) _ (World.block_lt_of_cell? w _ hc)).trans hc
      clear hc
      cases hn : e.neg with
      | true =>
        have HN : Hid (lastOf es k = lastOf es es.length) := (lastOf_neg hy hn).symm.trans HE.out
        rw [hn] at hc2
        clear hy hn
        go_wp2_with fail
        go_roundw
        case rel => refine ⟨k, by omega, ?_, HN.out, ?_⟩ <;> first | rfl | trivial
        case measure => simp [intOf]
      | false =>
        have HN : Hid ((k : Int) = lastOf es es.length) := (lastOf_pos hy hn).symm.trans HE.out
        rw [hn] at hc2
        clear hy hn
        go_wp2_with fail
        go_ret
        exact ⟨ret_int HN.out, (Fr.refl [] w).alloc _⟩
    | zero =>
      have HN : Hid (-1 = lastOf es es.length) := HE.out
      have e1 : (((0 : Nat) : Int) - 1) = -1 := rfl
      rw [e1]
      clear e1
      go_wp2_with fail
      go_ret
      exact ⟨ret_int HN.out, (Fr.refl [] w).alloc _⟩

end Go.Proofs.Ytcnoaflojojfkab.Pat
