/- More on slices: append at a step of a region that draws its order; the first things of a slice. No condition. -/
import Derived.Test.YtcnoaflojojfkabView
import Derived.Deep.RegionHeld3
namespace Go.Proofs.Ytcnoaflojojfkab
open Go.RowKit
set_option linter.unusedVariables false
set_option linter.unusedSimpArgs false
section
variable {P : Program}
/-- append at a step of a region that draws -/
theorem step_append_view (w : World) {ops : Array Oper} {o : Oper} {a : Act} {K : Act → World → Prop} {Q : Exit → Act → World → Prop} {E : Prop} (hgd : o.guard = none) (s x : Operand) (t : TypeId)
    (ho : o.op = .call { callee := .builtin .append, args := #[s, x], argTypes := #[t, t] })
    (B : Nat) (e : TypeId) (i : TypeInfo) (z : Value) (size bytes : Nat) (ht : P.underlying t = some (.slice e)) (hi : P.info? e = some i) (hz : i.zero = some z)
    (hsize : i.size = size) (hby : i.bytes = bytes) (hzs : z.cells.size = size)
    (sa : Option Addr) (sc n : Nat) (xs : List Value) (hs : a.eval s = .slice sa n sc) (hv : View w B e size (.slice sa n sc) n xs) (xv : Value) (m : Nat) (ys : List Value) (hxv : a.eval x = xv) (hx : Reads w size xv m ys) (h1 : ∀ u ∈ ys, u.oneCell' = true)
    (h63 : n + m ≤ maxLen) (hbytes : (n + m) * bytes ≤ 140737488355328) (hB : B ≤ w.heap.size)
    (h : ∀ a' c' w', View w' B e size (.slice a' (n + m) c') (n + m) (xs ++ ys) → w.grownBy w' (Value.slice sa n sc).ownBlock → ((Value.slice a' (n + m) c').ownBlock = (Value.slice sa n sc).ownBlock ∨ (Value.slice a' (n + m) c').ownBlock = some w.heap.size) → K (a.put o.dst (.slice a' (n + m) c')) w') :
    if Region.wanted o (yielded ops a.tmps) = true then Oper.wp P o a w K Q else E := by
  have hw : Region.wanted o (yielded ops a.tmps) = true := by simp [Region.wanted, hgd]
  rw [if_pos hw]
  obtain ⟨v', w', hr, h2, h3, h4⟩ := append_view (P := P) w B t o.type e i z size bytes ht hi hz hsize hby hzs hv hx h1 h63 hbytes hB
  obtain ⟨a', c', rfl⟩ := h2.form
  unfold Oper.wp execOp
  simp only [ho, resolve, invoke, builtin, Sem.run_bind, Sem.run_pure, Result.andThen_ok, List.map_toArray, List.map_cons, List.map_nil, hs, hxv, hr]
  exact h a' c' w' h2 h3 h4

end
/-- the first things of a slice -/
theorem Reads.take {w : World} {size n c : Nat} {a : Option Addr} {xs : List Value} (h : Reads w size (.slice a n c) n xs) (k : Nat) (hk : k ≤ n) : Reads w size (.slice a k c) k (xs.take (k * size)) := by
  obtain ⟨hl, a', c', hv, hnc, h⟩ := h
  simp only [Value.slice.injEq, true_and] at hv
  obtain ⟨rfl, rfl⟩ := hv
  refine ⟨by rw [List.length_take, hl]; exact Nat.min_eq_left (Nat.mul_le_mul_right _ hk), a, c, rfl, by omega, ?_⟩
  rcases h with rfl | ⟨b, o, rfl, h⟩
  · exact .inl (by simp)
  · refine .inr ⟨b, o, rfl, fun j u hu => ?_⟩
    rw [List.getElem?_take] at hu
    split at hu
    · exact h j u hu
    · cases hu
theorem Reads.take1 {w : World} {n c : Nat} {a : Option Addr} {zs : List Int} (h : Reads w 1 (.slice a n c) n (zs.map (Value.int .i64))) (k : Nat) (hk : k ≤ n) : Reads w 1 (.slice a k c) k ((zs.take k).map (Value.int .i64)) := by
  have := h.take k hk
  rwa [Nat.mul_one, ← List.map_take] at this
theorem Reads.cap {w : World} {size n c : Nat} {a : Option Addr} {xs : List Value} (h : Reads w size (.slice a n c) n xs) : n ≤ c := by
  obtain ⟨hl, a', c', hv, hnc, h⟩ := h
  simp only [Value.slice.injEq, true_and] at hv
  obtain ⟨rfl, rfl⟩ := hv
  exact hnc
end Go.Proofs.Ytcnoaflojojfkab
