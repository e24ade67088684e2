/- Iterators over numbers: who gives what; the list of some of what comes, and how many come. No condition. -/
import Derived.Test.YtcnoaflojojfkabLoop
import Derived.Test.YtcnoaflojojfkabSteps
import Derived.Test.YtcnoaflojojfkabSeqsSame
namespace Go.Proofs.Ytcnoaflojojfkab
open Go.RowKit Go.Shelf
set_option linter.unusedVariables false
set_option linter.unusedSimpArgs false
section
variable {P : Program}
/-- append at a list inside a fence -/
theorem wpListIn_append_view {F : Fence} {nf : Nat} (w : World) {ops : Array Oper} {rest : List Oper} {o : Oper} {a : Act} {Q : Exit → Act → World → Prop} (hgd : o.guard = none) (s x : Operand) (t : TypeId)
    (ho : o.op = .call { callee := .builtin .append, args := #[s, x], argTypes := #[t, t] })
    (B : Nat) (e : TypeId) (i : TypeInfo) (z : Value) (size bytes : Nat) (ht : P.underlying t = some (.slice e)) (hi : P.info? e = some i) (hz : i.zero = some z)
    (hsize : i.size = size) (hby : i.bytes = bytes) (hzs : z.cells.size = size)
    (sa : Option Addr) (sc n : Nat) (xs : List Value) (hs : a.eval s = .slice sa n sc) (hv : View w B e size (.slice sa n sc) n xs) (xv : Value) (m : Nat) (ys : List Value) (hxv : a.eval x = xv) (hx : Reads w size xv m ys) (h1 : ∀ u ∈ ys, u.oneCell' = true)
    (h63 : n + m ≤ maxLen) (hbytes : (n + m) * bytes ≤ 140737488355328) (hB : B ≤ w.heap.size)
    (h : ∀ a' c' w', View w' B e size (.slice a' (n + m) c') (n + m) (xs ++ ys) → w.grownBy w' (Value.slice sa n sc).ownBlock → ((Value.slice a' (n + m) c').ownBlock = (Value.slice sa n sc).ownBlock ∨ (Value.slice a' (n + m) c').ownBlock = some w.heap.size) → wpListIn F nf P ops Q rest (a.put o.dst (.slice a' (n + m) c')) w') : wpListIn F nf P ops Q (o :: rest) a w := by
  refine wpListIn_plain hgd fun K hK => ?_
  obtain ⟨v', w', hr, h2, h3, h4⟩ := append_view (P := P) w B t o.type e i z size bytes ht hi hz hsize hby hzs hv hx h1 h63 hbytes hB
  obtain ⟨a', c', rfl⟩ := h2.form
  unfold Oper.wpIn
  refine ⟨?_, ?_⟩
  · simp [Oper.about, ho, resolve, Target.leads, Sem.run_pure]
  · rw [Oper.semAt_plain F _ _ (by rw [ho]; intro c hc'; cases hc')]
    simp [execOp, ho, resolve, invoke, builtin, hs, hxv, hr, Result.andThen]
    exact hK _ _ (h a' c' w' h2 h3 h4)

end
theorem View.keeps {w w1 : World} {B e size n : Nat} {v : Value} {xs : List Value} (h : View w B e size v n xs) (hk : ∀ g, v.ownBlock = some g → w1.heap[g]? = w.heap[g]?) : View w1 B e size v n xs := by
  obtain ⟨hl, h | ⟨g, off, cap, cs, rfl, hB, hb, r⟩⟩ := h
  · exact ⟨hl, .inl h⟩
  · exact ⟨hl, .inr ⟨g, off, cap, cs, rfl, hB, hb.of_eq (hk g rfl), r⟩⟩
theorem View.taken {W : World} {B e size n D : Nat} {v : Value} {xs : List Value} (h : View W B e size v n xs) (hK : W.heap[D]? = some (.deferred (some []))) (o : Obj) : View (W.putObj D o) B e size v n xs := by
  obtain ⟨hl, h | ⟨g, off, cap, cs, rfl, hB, hb, r⟩⟩ := h
  · exact ⟨hl, .inl h⟩
  · exact ⟨hl, .inr ⟨g, off, cap, cs, rfl, hB, hb.taken hK o, r⟩⟩
namespace Seqs
set_option maxRecDepth 100000
attribute [local go_sem] Oper.semAt_some

/-- an iterator that tells these numbers; it reads the blocks D -/
def It (w : World) (D : List Nat) (v : Value) (xs : List Int) : Prop :=
  ∃ gf lb, v = .func (.func gf) #[] lb ∧ (∀ args w, (callFunc gf args).run Try.prog w = .ok (.enter gf args) w) ∧ (∀ b ∈ D, b < w.heap.size) ∧
    ∀ (w' : World) (O0 : Nat → Prop), w.heap.size ≤ w'.heap.size → (∀ b ∈ D, w'.heap[b]? = w.heap[b]?) → (∀ b, O0 b → b < w'.heap.size) → (∀ b ∈ D, ¬ O0 b) →
      SeqT Try.prog gf lb (fun x : Int => #[.int .i64 x]) [] O0 (fun ys _ => ys = xs) (fun pre _ => pre <+: xs) xs.length w'
theorem It.keep {w w1 : World} {D : List Nat} {v : Value} {xs : List Int} (h : It w D v xs) (hs : w.heap.size ≤ w1.heap.size) (hk : ∀ b ∈ D, w1.heap[b]? = w.heap[b]?) : It w1 D v xs := by
  obtain ⟨gf, lb, h1, h2, h3, h4⟩ := h
  exact ⟨gf, lb, h1, h2, fun b hb => Nat.lt_of_lt_of_le (h3 b hb) hs, fun w' O0 hz hd => h4 w' O0 (Nat.le_trans hs hz) (fun b hb => (hd b hb).trans (hk b hb))⟩
theorem It.fr {S : List Nat} {w w1 : World} {D : List Nat} {v : Value} {xs : List Int} (h : It w D v xs) (hf : Fr S w w1) (hS : ∀ b ∈ D, b ∉ S) : It w1 D v xs := by
  obtain ⟨gf, lb, h1, h2, h3, h4⟩ := id h
  exact h.keep hf.size (fun b hb => hf.block b (h3 b hb) (hS b hb))
theorem It.fr0 {w w1 : World} {D : List Nat} {v : Value} {xs : List Int} (h : It w D v xs) (hf : Fr [] w w1) : It w1 D v xs := h.fr hf (by simp)
/-- a slice that can be read, its block among D -/
structure ReadsD (w : World) (D : List Nat) (v : Value) (zs : List Int) : Prop where
  rd : Reads w 1 v zs.length (zs.map (Value.int .i64))
  lt : ∀ b ∈ D, b < w.heap.size
  inD : zs ≠ [] → ∃ b o c, v = .slice (some ⟨b, o, none⟩) zs.length c ∧ b ∈ D
theorem ReadsD.keep {w w1 : World} {D : List Nat} {v : Value} {zs : List Int} (h : ReadsD w D v zs) (hs : w.heap.size ≤ w1.heap.size) (hk : ∀ b ∈ D, w1.heap[b]? = w.heap[b]?) : ReadsD w1 D v zs := by
  refine ⟨?_, fun b hb => Nat.lt_of_lt_of_le (h.lt b hb) hs, h.inD⟩
  obtain ⟨hl, a, c, rfl, hnc, hc⟩ := h.rd
  refine ⟨hl, a, c, rfl, hnc, ?_⟩
  by_cases hz : zs = []
  · exact .inl (by rw [hz]; rfl)
  · obtain ⟨b, o, c', e, hb⟩ := h.inD hz
    simp only [Value.slice.injEq, true_and] at e
    obtain ⟨rfl, rfl⟩ := e
    rcases hc with hc | ⟨b2, o2, e2, hc⟩
    · exact .inl hc
    · simp only [Option.some.injEq, Addr.mk.injEq, and_true] at e2
      obtain ⟨rfl, rfl⟩ := e2
      exact .inr ⟨b, o, rfl, fun j u hu => (World.cell?_of_block (w := w) (hk b hb)).trans (hc j u hu)⟩
theorem ReadsD.fr0 {w w1 : World} {D : List Nat} {v : Value} {zs : List Int} (h : ReadsD w D v zs) (hf : Fr [] w w1) : ReadsD w1 D v zs := h.keep hf.size (fun b hb => hf.block b (h.lt b hb) (by simp))
theorem ReadsD.of {w : World} {v : Value} {zs : List Int} (h : Reads w 1 v zs.length (zs.map (Value.int .i64))) : ∃ D, ReadsD w D v zs := by
  by_cases hz : zs = []
  · exact ⟨[], h, by simp, fun hn => absurd hz hn⟩
  · obtain ⟨hl, a, c, rfl, hnc, hc⟩ := id h
    rcases hc with hc | ⟨b, o, rfl, hc⟩
    · exact absurd (List.map_eq_nil_iff.1 hc) hz
    · obtain ⟨x, r, rfl⟩ : ∃ x r, zs = x :: r := by cases zs with
        | nil => exact absurd rfl hz
        | cons x r => exact ⟨x, r, rfl⟩
      exact ⟨[b], h, by simp; exact World.block_lt_of_cell? w _ (hc 0 _ rfl), fun _ => ⟨b, o, c, rfl, by simp⟩⟩

set_option maxHeartbeats 2000000 in
theorem of_stops (B l0 : Nat) (D : List Nat) (v : Value) (zs : List Int) (w w' : World) (O0 : Nat → Prop) (hB : Blk w B [v] 33) (hr : ReadsD w D v zs) (hlen : zs.length ≤ 140737488351232) (hs : w.heap.size ≤ w'.heap.size)
    (hD : ∀ b ∈ B :: D, w'.heap[b]? = w.heap[b]?) (hO : ∀ b, O0 b → b < w'.heap.size) (hn : ∀ b ∈ B :: D, ¬ O0 b) :
    SeqT Try.prog 67 #[.pointer (some ⟨B, 0, none⟩)] (fun x : Int => #[.int .i64 x]) [] O0 (fun ys _ => ys = zs) (fun pre _ => pre <+: zs) zs.length w' := by
  intro l J Jx W hW hl1 hl2 hJ hJx hY h0
  have hDW : ∀ b ∈ B :: D, W.heap[b]? = w.heap[b]? := fun b hb => by
    have hlt : b < w.heap.size := by
      rcases List.mem_cons.1 hb with rfl | hb
      · exact hB.lt
      · exact hr.lt b hb
    exact (hW.block b (by omega)).trans (hD b hb)
  have hsW : w.heap.size ≤ W.heap.size := Nat.le_trans hs hW.size
  have hBW : Blk W B [v] 33 := hB.of_eq (hDW B (by simp))
  have hrW : ReadsD W D v zs := hr.keep hsW (fun b hb => hDW b (by simp [hb]))
  have HN : Hid (∀ b ∈ B :: D, ¬ O0 b) := hn
  obtain ⟨_, a, c, rfl, hc, _⟩ := hr.rd
  have qB := hBW.cell_at (o := 0) rfl
  have HR := Lib.hid hrW
  have HB := Lib.hid hBW
  have HY := Lib.hid hY
  clear hY hrW hBW hDW hD hn hJ hJx hB hr hW hO
  refine callsIn_of_wp Try.func67 rfl trivial ?_ rfl
  simp only [Try.ntmps67, List.size_toArray, List.length_cons, List.length_nil, Nat.reduceAdd, Nat.reduceSub, Array.replicate_succ, Array.replicate_zero, List.push_toArray, List.append_toArray, List.nil_append, List.cons_append]
  refine wpIn_wide.2 ?_
  go_wp2_with fail
  go_loopw [7] (fun v7 wr => ∃ (k : Nat) (O : Nat → Prop), k ≤ zs.length ∧ v7 = .int .i64 k ∧ J (zs.take k) O wr ∧ ReadsD wr D (.slice a zs.length c) zs ∧ (∀ b ∈ D, ¬ O b)) (fun v7 _ => zs.length - (intOf v7).toNat)
  case atStart => exact ⟨0, O0, Nat.zero_le _, rfl, h0, HR.out, fun b hb => HN.out b (by simp [hb])⟩
  case round =>
    obtain ⟨k, O, hk, rfl, hj, hrd, hno⟩ := hrel
    have HJ := Lib.hid hj
    have HRr := Lib.hid hrd
    have HNO := Lib.hid hno
    clear hj hrd hno
    by_cases hlt : k < zs.length
    · obtain ⟨x, hx⟩ : ∃ x, zs[k]? = some x := ⟨zs[k], List.getElem?_eq_getElem _⟩
      obtain ⟨b1, o1, c1, e1, _, h1⟩ := at_reads HRr.out.rd hx
      simp only [Value.slice.injEq] at e1
      obtain ⟨rfl, _, rfl⟩ := e1
      have HT : Hid (zs.take (k + 1) = zs.take k ++ [x]) := by rw [List.take_add_one, hx]; exact Lib.hid rfl
      clear hx
      obtain ⟨fn, tmps, assign, body, hy, hR⟩ := HY.out _ x O wr HJ.out (by rw [List.length_take]; omega)
      have HRd := Lib.hid (hR.mono (R' := fun e W' => ∃ bb : Bool, e = .returned (.bool bb) ∧ ((bb = true ∧ J (zs.take k ++ [x]) (grow O wr W') W' ∧ Keeps (fun k => ¬ O k) wr W') ∨ (bb = false ∧ Jx (zs.take k ++ [x]) (grow O wr W') W')))
        (fun e W' h => by
          rcases h with ⟨rfl, h1, h2⟩ | ⟨rfl, h1, _⟩
          · exact ⟨true, rfl, .inl ⟨rfl, h1, h2⟩⟩
          · exact ⟨false, rfl, .inr ⟨rfl, h1⟩⟩))
      clear hR
      go_upto_region 3 with (fail)
      refine (wpIn_wide (n := 8)).1 ?_
      gi_wp2
      refine HRd.out.mono ?_
      rintro e W' ⟨bb, rfl, hh⟩
      have HHh := Lib.hid hh
      clear hh
      gi_wp2
      rcases HHh.out with ⟨rfl, hJ', hK'⟩ | ⟨rfl, hJx'⟩
      · have HJ' := Lib.hid hJ'
        have HR' : Hid (ReadsD W' D _ zs) := Lib.hid (HRr.out.keep hK'.size (fun b hb => hK'.block b (HRr.out.lt b hb) (HNO.out b hb)))
        have HNO' : Hid (∀ b ∈ D, ¬ grow O wr W' b) := Lib.hid (fun b hb h => by
          rcases h with h | h
          · exact HNO.out b hb h
          · have := HRr.out.lt b hb; omega)
        clear hJ' hK' HHh HRd hy h1
        go_wp2
        go_roundw
        case rel => exact ⟨k + 1, _, by omega, by go_num, by rw [HT.out]; exact HJ'.out, HR'.out, HNO'.out⟩
        case measure => simp [intOf]; omega
      · have HJx' := Lib.hid hJx'
        clear hJx' HHh HRd hy h1
        go_wp2
        refine bodyPost_ret (results_none rfl _ _ _) rfl ?_
        exact ⟨⟨_, rfl⟩, .inr ⟨_, _, ⟨zs.drop (k + 1), by rw [← HT.out, List.take_append_drop]⟩, HJx'.out⟩⟩
    · obtain rfl : k = zs.length := by omega
      go_wp2
      go_end0
      exact ⟨⟨_, rfl⟩, .inl ⟨_, O, rfl, by have := HJ.out; rwa [List.take_of_length_le (Nat.le_refl _)] at this⟩⟩
end Seqs
end Go.Proofs.Ytcnoaflojojfkab
