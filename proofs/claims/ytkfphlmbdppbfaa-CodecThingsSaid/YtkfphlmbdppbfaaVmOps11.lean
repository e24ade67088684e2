/- The machine's operations are the model's: append. No condition. -/
import Derived.Test.YtkfphlmbdppbfaaVmOps10
namespace Go.Proofs.Ytkfphlmbdppbfaa.Vm
open Go Go.RowKit
set_option linter.unusedVariables false
set_option linter.unusedSimpArgs false
/-- memory with some cells more that do not change any more -/
def extM (M : Mem) (b o : Nat) (us : List Value) : Mem := fun b' o' => if b' = b ∧ o ≤ o' ∧ o' < o + us.length then us[o' - o]? else M b' o'
theorem extM_le {M : Mem} {b o : Nat} {us : List Value} (h : ∀ o', o ≤ o' → M b o' = none) : Mle M (extM M b o us) := fun b' o' v hv => by
  unfold extM
  split
  · rename_i e; rw [e.1, h _ e.2.1] at hv; cases hv
  · exact hv
theorem extM_ne {M : Mem} {b o : Nat} {us : List Value} {b' o' : Nat} (h : extM M b o us b' o' ≠ M b' o') : b' = b := Classical.byContradiction fun hne => h (if_neg (fun e => hne e.1))
theorem extM_at {M : Mem} {b o j : Nat} {us : List Value} {u : Value} (h : us[j]? = some u) : extM M b o us b (o + j) = some u := by
  have := (List.getElem?_eq_some_iff.1 h).1
  unfold extM
  rw [if_pos ⟨rfl, by omega, by omega⟩, show o + j - o = j by omega]; exact h
theorem extM_out {M : Mem} {b o o' : Nat} {us : List Value} (h : o' < o ∨ o + us.length ≤ o') : extM M b o us b o' = M b o' := if_neg (by omega)
theorem extM_stable {M : Mem} {b o : Nat} {us : List Value} {w : World} (hM : ∀ b o v, M b o = some v → w.cell? ⟨b, o, none⟩ = some v) (h : ∀ j u, us[j]? = some u → w.cell? ⟨b, o + j, none⟩ = some u) : ∀ b' o' v, extM M b o us b' o' = some v → w.cell? ⟨b', o', none⟩ = some v := by
  intro b' o' v hv
  unfold extM at hv
  split at hv
  · rename_i e
    rw [e.1, show o' = o + (o' - o) by omega]; exact h _ _ hv
  · exact hM _ _ _ hv
/-- what may be appended: so many elements, these cells -/
structure AppArg (P : Program) (w : World) (size : Nat) (x : Value) (m : Nat) (ys : List Value) : Prop where
  len : ys.length = m * size
  lenOf : (Builtin.lenOf x).run P w = .ok m w
  first : (Builtin.firstCells size m x).run P w = .ok ys.toArray w
  first' : (Builtin.firstCells size m x).run P w.drew = .ok ys.toArray w.drew
section
variable {P : Program} {w : World}
theorem AppArg.reads {size m : Nat} {x : Value} {ys : List Value} (h : Reads w size x m ys) : AppArg P w size x m ys :=
  ⟨h.1, by obtain ⟨_, a, c, rfl, _⟩ := h; simp [Builtin.lenOf], firstCells_reads h, firstCells_reads (w := w.drew) h⟩
theorem AppArg.string (s : ByteArray) : AppArg P w 1 (.string s) s.size ((bytesOf s).map (Value.int .u8)) := by
  have he : ∀ W : World, (Builtin.firstCells 1 s.size (.string s)).run P W = .ok ((bytesOf s).map (Value.int .u8)).toArray W := by
    intro W
    have hx : s.extract 0 s.size = s := by simp
    simp only [Builtin.firstCells, hx, Sem.run_pure]
    congr 1
    apply Array.ext'
    simp [bytesOf]
  exact ⟨by simp [bytesOf], by simp [Builtin.lenOf], he w, he w.drew⟩
theorem append_new {t t2 ty e : TypeId} {ats : Array TypeId} {d : TypeDesc} {i : TypeInfo} {z : Value} {size bytes : Nat} (ht0 : ats[0]? = some t) (ht1 : ats[1]? = some t2) (ht : P.underlying t = some (.slice e)) (ht2 : P.underlying t2 = some d) (hd : (∃ e2, d = .slice e2) ∨ d = .string)
    (hi : P.info? e = some i) (hz : i.zero = some z) (hsize : i.size = size) (hby : i.bytes = bytes) (hzs : z.cells.size = size) {sa : Option Addr} {n old m : Nat} {xs ys : List Value} {x : Value} (hv : Reads w size (.slice sa n old) n xs) (hx : AppArg P w size x m ys)
    (h63 : n + m ≤ maxLen) (hbytes : (n + m) * bytes ≤ 140737488355328) (hno : n ≤ old) (ho : old < n + m) :
    ∃ cap zs, n + m ≤ cap ∧ cap ≤ maxLen ∧ (xs ++ ys ++ zs).length = cap * size ∧ (Builtin.append_ ats ty #[.slice sa n old, x]).run P w = .ok (.slice (some ⟨w.heap.size, 0, none⟩) (n + m) cap) (w.drew.alloc (.cells (xs ++ ys ++ zs).toArray e)) := by
  subst hsize hby
  have hge := grownCap_ge w (n + m) old e
  have hcm : grownCap w (n + m) old e ≤ maxLen := grownCap_le_maxLen w (n + m) old e h63
  have hn : ¬ (n + m ≤ old) := by omega
  have h63' : ¬ (9223372036854775807 < ((n : Int) + (m : Int))) := by simp only [maxLen] at h63; omega
  have h48' : ¬ (281474976710656 < Builtin.nextslicecap (n + m) old * i.bytes) := by have := growslice_fits (bytes := i.bytes) ho hbytes; omega
  have hfv' := firstCells_reads (P := P) (w := w.drew) hv
  have hlen := hx.lenOf
  have hfx' := hx.first'
  refine ⟨grownCap w (n + m) old e, (Builtin.zeroCells z.cells (grownCap w (n + m) old e - (n + m))).toList, hge, hcm, ?_, ?_⟩
  · simp only [List.length_append, hv.1, hx.len, Array.length_toList, size_zeroCells, hzs, ← Nat.add_mul]
    congr 1; omega
  · rcases hd with ⟨e2, rfl⟩ | rfl
    all_goals
      simp [Builtin.append_, ht0, ht1, run_underlying ht, run_underlying ht2, sizeOf, typeInfo, zeroValue, hi, hz, hlen, hn, h63', h48', Question.forced, hfx', hfv', newRow, grownCap]
      congr 2
      apply Array.ext'
      simp
theorem append_room {t t2 ty e : TypeId} {ats : Array TypeId} {d : TypeDesc} {i : TypeInfo} {size : Nat} (ht0 : ats[0]? = some t) (ht1 : ats[1]? = some t2) (ht : P.underlying t = some (.slice e)) (ht2 : P.underlying t2 = some d) (hd : (∃ e2, d = .slice e2) ∨ d = .string)
    (hi : P.info? e = some i) (hsize : i.size = size) {g off n cap m : Nat} {ys : List Value} {x : Value} (hx : AppArg P w size x m ys) (hroom : n + m ≤ cap) {W : World} (hst : (storeCells ⟨g, off + n * size, none⟩ ys).run P w = .ok () W) :
    (Builtin.append_ ats ty #[.slice (some ⟨g, off, none⟩) n cap, x]).run P w = .ok (.slice (some ⟨g, off, none⟩) (n + m) cap) W := by
  subst hsize
  have hlen := hx.lenOf
  have hfx := hx.first
  rcases hd with ⟨e2, rfl⟩ | rfl
  all_goals simp [Builtin.append_, ht0, ht1, run_underlying ht, run_underlying ht2, sizeOf, typeInfo, hi, hlen, hroom, hfx, addr_add, hst]
theorem append_same {t t2 ty e : TypeId} {ats : Array TypeId} {d : TypeDesc} {i : TypeInfo} {size : Nat} (ht0 : ats[0]? = some t) (ht1 : ats[1]? = some t2) (ht : P.underlying t = some (.slice e)) (ht2 : P.underlying t2 = some d) (hd : (∃ e2, d = .slice e2) ∨ d = .string)
    (hi : P.info? e = some i) (hsize : i.size = size) {sa : Option Addr} {n cap : Nat} {x : Value} (hx : AppArg P w size x 0 []) (hroom : n ≤ cap) :
    (Builtin.append_ ats ty #[.slice sa n cap, x]).run P w = .ok (.slice sa n cap) w := by
  subst hsize
  have hlen := hx.lenOf
  have hfx := hx.first
  rcases hd with ⟨e2, rfl⟩ | rfl
  all_goals cases sa <;> simp [Builtin.append_, ht0, ht1, run_underlying ht, run_underlying ht2, sizeOf, typeInfo, hi, hlen, hroom, hfx, storeCells]
/-- append to a list that is one's own -/
theorem append_own {M : Mem} {t t2 ty e : TypeId} {ats : Array TypeId} {d : TypeDesc} {i : TypeInfo} {z : Value} {bytes : Nat} (ht0 : ats[0]? = some t) (ht1 : ats[1]? = some t2) (ht : P.underlying t = some (.slice e)) (ht2 : P.underlying t2 = some d) (hd : (∃ e2, d = .slice e2) ∨ d = .string)
    {el : Ty} (hi : P.info? e = some i) (hz : i.zero = some z) (hsize : i.size = el.size) (hby : i.bytes = bytes) (hzs : z.cells.size = el.size)
    (hst : ∀ b o v, M b o = some v → w.cell? ⟨b, o, none⟩ = some v) {xs ys : List el.den} {s : Bool} {v x : Value} {G : List Nat} (k : ownR M (fun k => w.heap[k]?) el xs s v G) {yc : List Value} (hy : rowsR M el ys yc) (hx : AppArg P w el.size x ys.length yc)
    (h63 : xs.length + ys.length ≤ maxLen) (hbytes : (xs.length + ys.length) * bytes ≤ 140737488355328) :
    ∃ v' w' M' G', (Builtin.append_ ats ty #[v, x]).run P w = .ok v' w' ∧ ownR M' (fun k => w'.heap[k]?) el (xs ++ ys) s v' G' ∧ Fr G w w' ∧ Mle M M' ∧ (∀ b o, M' b o ≠ M b o → b ∈ G ∨ b = w.heap.size) ∧
      (∀ b o v, M' b o = some v → w'.cell? ⟨b, o, none⟩ = some v) ∧ (∀ y ∈ G', y ∈ G ∨ (y = w.heap.size ∧ y < w'.heap.size)) ∧ G'.Nodup := by
  have hone := rowsR_one hy
  have hnew : ∀ o, M w.heap.size o = none := fun o => by
    cases h : M w.heap.size o with
    | none => rfl
    | some v =>
      have := hst _ _ _ h
      unfold World.cell? at this
      rw [Array.getElem?_eq_none (Nat.le_refl _)] at this
      cases this
  obtain ⟨old, hro, hrd⟩ := reads_own (w := w) hst k
  obtain ⟨hol, sa, c, hv, hnc, _⟩ := id hrd
  have hgrow : c < xs.length + ys.length → ∃ v' w' M' G', (Builtin.append_ ats ty #[v, x]).run P w = .ok v' w' ∧ ownR M' (fun k => w'.heap[k]?) el (xs ++ ys) s v' G' ∧ Fr G w w' ∧ Mle M M' ∧ (∀ b o, M' b o ≠ M b o → b ∈ G ∨ b = w.heap.size) ∧
      (∀ b o v, M' b o = some v → w'.cell? ⟨b, o, none⟩ = some v) ∧ (∀ y ∈ G', y ∈ G ∨ (y = w.heap.size ∧ y < w'.heap.size)) ∧ G'.Nodup := by
    intro hlt
    rw [hv] at hrd ⊢
    obtain ⟨cap, zs, h1, h2, h3, h4⟩ := append_new (ty := ty) ht0 ht1 ht ht2 hd hi hz hsize hby hzs hrd hx h63 hbytes hnc hlt
    have hf : Fr [] w (w.drew.alloc (.cells (old ++ yc ++ zs).toArray e)) := ((Fr.refl [] w).drew).alloc _
    have hb : Blk (w.drew.alloc (.cells (old ++ yc ++ zs).toArray e)) w.heap.size (old ++ yc ++ zs) e := Blk.new w.drew _ e
    have hrows : rowsR M el (xs ++ ys) (old ++ yc) := rowsR_append hro hy
    have hull : (old ++ yc).length = (xs.length + ys.length) * el.size := by rw [rowsR_len hrows, List.length_append]
    have hst' : ∀ b o v, M b o = some v → (w.drew.alloc (.cells (old ++ yc ++ zs).toArray e)).cell? ⟨b, o, none⟩ = some v := fun b o v hv => hf.cell (hst b o v hv) (fun h => by cases h)
    have hsz : w.heap.size < (w.drew.alloc (.cells (old ++ yc ++ zs).toArray e)).heap.size := hb.lt
    cases s with
    | false =>
      refine ⟨_, _, M, [w.heap.size], h4, ?_, hf.wide (fun b h => by cases h), Mle.refl _, fun b o e => absurd rfl e, hst', fun y hy => .inr ⟨List.mem_singleton.1 hy, by rw [List.mem_singleton.1 hy]; exact hsz⟩, by simp⟩
      have := ownR_new (M := M) (h := fun k => (w.drew.alloc (.cells (old ++ yc ++ zs).toArray e)).heap[k]?) hb hrows (by rw [List.take_left]) (by rw [List.length_append]; exact h1) h2 (by rw [h3]; exact Nat.le_refl _) hnew
      rwa [List.length_append] at this
    | true =>
      have hle : Mle M (extM M w.heap.size 0 (old ++ yc)) := extM_le (fun o' _ => hnew o')
      refine ⟨_, _, extM M w.heap.size 0 (old ++ yc), [w.heap.size], h4, ?_, hf.wide (fun b h => by cases h), hle, fun b o e => .inr (extM_ne e), extM_stable hst' (fun j u hj => ?_), fun y hy => .inr ⟨List.mem_singleton.1 hy, by rw [List.mem_singleton.1 hy]; exact hsz⟩, by simp⟩
      · refine .inr (.inr ⟨w.heap.size, 0, cap, old ++ yc ++ zs, e, old ++ yc, rfl, by rw [List.length_append], hb, by rw [List.length_append]; exact h1, h2, by rw [h3]; omega, rowsR_mono hle hrows, by rw [List.drop_zero, List.take_left], fun _ j u hj => extM_at hj, fun o ho => ?_⟩)
        rcases ho with h | h
        · cases h
        · rw [extM_out (.inr (by rw [hull]; rw [List.length_append] at h; omega))]; exact hnew o
      · rw [hb.cell, Nat.zero_add, List.getElem?_append_left (List.getElem?_eq_some_iff.1 hj).1]; exact hj
  by_cases hroom : xs.length + ys.length ≤ c
  · have hnil : ys.length = 0 → ∃ v' w' M' G', (Builtin.append_ ats ty #[v, x]).run P w = .ok v' w' ∧ ownR M' (fun k => w'.heap[k]?) el (xs ++ ys) s v' G' ∧ Fr G w w' ∧ Mle M M' ∧ (∀ b o, M' b o ≠ M b o → b ∈ G ∨ b = w.heap.size) ∧
        (∀ b o v, M' b o = some v → w'.cell? ⟨b, o, none⟩ = some v) ∧ (∀ y ∈ G', y ∈ G ∨ (y = w.heap.size ∧ y < w'.heap.size)) ∧ G'.Nodup := by
      intro h0
      have h1 : ys = [] := List.eq_nil_of_length_eq_zero h0
      subst h1
      have h2 : yc = [] := hy
      subst h2
      have hGn : G.Nodup := by
        rcases k with ⟨h1, _⟩ | ⟨h1, _⟩ | ⟨g, _, _, _, _, _, h1, _⟩ <;> rw [h1] <;> simp
      refine ⟨v, w, M, G, ?_, by rw [List.append_nil]; exact k, Fr.refl _ _, Mle.refl _, fun b o e => absurd rfl e, hst, fun y hy => .inl hy, hGn⟩
      rw [hv]
      exact append_same ht0 ht1 ht ht2 hd hi hsize hx hnc
    rcases id k with ⟨_, h2, h3⟩ | ⟨_, _, _, a', h4⟩ | ⟨g, off, cap, cs, e', us, k1, k2, k3, k4, k5, k6, k7, k8, k9, k10⟩
    · rw [h3] at hv
      simp only [Value.slice.injEq] at hv
      exact hnil (by omega)
    · rw [h4] at hv
      simp only [Value.slice.injEq] at hv
      exact hnil (by omega)
    · rw [k2] at hv
      simp only [Value.slice.injEq] at hv
      obtain ⟨rfl, _, rfl⟩ := hv
      have hul := rowsR_len k7
      have hycl := hx.len
      have hmul : (xs.length + ys.length) * el.size ≤ cap * el.size := Nat.mul_le_mul_right _ hroom
      have hadd : (xs.length + ys.length) * el.size = xs.length * el.size + ys.length * el.size := Nat.add_mul _ _ _
      have hfit : off + xs.length * el.size + yc.length ≤ cs.length := by omega
      have hb : Blk w g cs e' := k3
      have hth : ∀ j, j < yc.length → (w.cell? ⟨g, off + xs.length * el.size + j, none⟩).isSome = true ∧ w.frozen? ⟨g, off + xs.length * el.size + j, none⟩ = false := by
        intro j hj
        refine ⟨?_, hb.thawed _⟩
        rw [hb.cell, List.getElem?_eq_getElem (by omega)]; rfl
      have hrun := run_storeCells_cells (P := P) g (off + xs.length * el.size) yc 0 w (fun j hj => by simpa using (hth j (by simpa using hj)).1) (fun j hj => by simpa using (hth j (by simpa using hj)).2) hone
      simp only [Nat.add_zero] at hrun
      have hap := append_room (ty := ty) ht0 ht1 ht ht2 hd hi hsize (g := g) (off := off) (cap := cap) hx hroom hrun
      have hb' := Blk_setCells yc (off + xs.length * el.size) hb
      have hf : Fr [g] w (w.setCells g (off + xs.length * el.size) yc) := Fr_setCells _ _ _
      rw [k2]
      have hcell : ∀ o, (s = false ∨ off + xs.length * el.size ≤ o) → M g o = none := k10
      have hst' : ∀ b o v, M b o = some v → (w.setCells g (off + xs.length * el.size) yc).cell? ⟨b, o, none⟩ = some v := by
        intro b o v hv
        have h1 := hst b o v hv
        by_cases e : b = g
        · subst e
          rw [hb.cell] at h1
          rw [hb'.cell, get_setL _ _ _ _ hfit, if_neg (fun h => by rw [hcell o (.inr h.1)] at hv; cases hv)]; exact h1
        · exact hf.cell h1 (fun h => e (List.mem_singleton.1 h))
      have hrows : rowsR M el (xs ++ ys) (us ++ yc) := rowsR_append k7 hy
      have htake : ((setL cs (off + xs.length * el.size) yc).drop off).take (us ++ yc).length = us ++ yc := by
        apply List.ext_getElem?
        intro j
        rw [List.getElem?_take, List.length_append]
        by_cases h1 : j < us.length + yc.length
        · rw [if_pos h1, List.getElem?_drop, get_setL _ _ _ _ hfit]
          by_cases h2 : j < us.length
          · rw [if_neg (by omega), List.getElem?_append_left h2]
            have : ((cs.drop off).take us.length)[j]? = us[j]? := by rw [k8]
            rw [List.getElem?_take, if_pos h2, List.getElem?_drop] at this
            exact this
          · rw [if_pos (by omega), List.getElem?_append_right (by omega)]; congr 1; omega
        · rw [if_neg h1, List.getElem?_append_right (by omega), List.getElem?_eq_none (by omega)]
      cases s with
      | false =>
        refine ⟨_, _, M, [g], hap, ?_, by rw [k1]; exact hf, Mle.refl _, fun b o e => absurd rfl e, hst', fun y hy => .inl (by rw [k1]; exact hy), by simp⟩
        exact .inr (.inr ⟨g, off, cap, _, e', us ++ yc, rfl, by rw [List.length_append], hb', by rw [List.length_append]; exact hroom, k5, by rw [length_setL]; exact k6, hrows, htake, fun h => by (cases h), fun o _ => hcell o (.inl rfl)⟩)
      | true =>
        have hle : Mle M (extM M g (off + xs.length * el.size) yc) := extM_le (fun o' h => hcell o' (.inr h))
        refine ⟨_, _, extM M g (off + xs.length * el.size) yc, [g], hap, ?_, by rw [k1]; exact hf, hle, fun b o e => .inl (by rw [k1, extM_ne e]; simp), extM_stable hst' (fun j u hj => ?_), fun y hy => .inl (by rw [k1]; exact hy), by simp⟩
        · refine .inr (.inr ⟨g, off, cap, _, e', us ++ yc, rfl, by rw [List.length_append], hb', by rw [List.length_append]; exact hroom, k5, by rw [length_setL]; exact k6, rowsR_mono hle hrows, htake, fun _ j u hj => ?_, fun o ho => ?_⟩)
          · by_cases h2 : j < us.length
            · rw [List.getElem?_append_left h2] at hj
              exact hle _ _ _ (k9 rfl j u hj)
            · rw [List.getElem?_append_right (by omega)] at hj
              have := extM_at (M := M) (b := g) (o := off + xs.length * el.size) hj
              rwa [show off + xs.length * el.size + (j - us.length) = off + j by omega] at this
          · rcases ho with h | h
            · cases h
            · rw [List.length_append] at h
              rw [extM_out (.inr (by omega))]; exact hcell o (.inr (by omega))
        · rw [hb'.cell, get_setL _ _ _ _ hfit, if_pos ⟨by omega, by have := (List.getElem?_eq_some_iff.1 hj).1; omega⟩, show off + xs.length * el.size + j - (off + xs.length * el.size) = j by omega]; exact hj
  · exact hgrow (by omega)
variable {B : Bs} {X X' : List Nat} {g : Key → V} {n : Nat} {a : Act} {M : Mem} {ι : Nat → Nat} {Gs : Key → List Nat} {C : CallR}
theorem const_notown (c : Value) : isOwn (constV c) = false := by
  unfold constV
  split
  · rfl
  · unfold constLeaf; split <;> rfl
theorem arr2 {α : Type} {c : Array α} {x y : α} (h : c.toList = [x, y]) : c = #[x, y] := by cases c; simp at h; rw [h]
theorem append_fin (hs : Sim B X g n a w M ι Gs) {o : Oper} (hd : inRange n o.dst = true) {w' : World} {M' : Mem} {G G' : List Nat} {el : Ty} {xs : List el.den} {s : Bool} {v' : Value} (hG : ∀ y ∈ G, y ∈ X)
    (hown : ownR M' (fun k => w'.heap[k]?) el xs s v' G') (hf : Fr G w w') (hle : Mle M M') (hch : ∀ b o, M' b o ≠ M b o → b ∈ G ∨ b = w.heap.size) (hst : ∀ b o v, M' b o = some v → w'.cell? ⟨b, o, none⟩ = some v)
    (hG' : ∀ y ∈ G', y ∈ G ∨ (y = w.heap.size ∧ y < w'.heap.size)) (hn : G'.Nodup) (hrun : (execOp a.eval o).run P w = .ok (.value v') w') (Q : Exit → Act → World → Prop) :
    o.wp P a w (Good B (gputs g (dstW o.dst (.list el xs (.own s true)))) n) Q := by
  have hs1 := hs.world (w' := w') (M' := M') (L := G) (X' := G') hf (fun x hx => .inl (hG x hx)) (fun b hb hm => absurd rfl ((hs.spare _ (hG _ hm)).2.2 b hb)) hle
    (fun b o h => (hch b o h).elim (fun h => .inl (hG b h)) (fun h => .inr (by omega))) hst (fun y hy => (hG' y hy).elim (fun h => .inl (hG y h)) (fun h => .inr ⟨by omega, h.2⟩))
  unfold Oper.wp
  rw [hrun, Oper.upon_value]
  cases hdd : o.dst with
  | none => exact ⟨M', ι, Gs, hs1.less (fun x hx => by cases hx)⟩
  | some d =>
    rw [hdd] at hd
    exact ⟨M', ι, _, hs1.setSlot (V := .list el xs (.own s true)) (X' := []) (inRange_lt hd) (show ownR M' (fun k => w'.heap[k]?) el xs s v' G' from hown) rfl (fun b hb => by cases hb) (fun y hy => hy) hn (fun x hx => by cases hx) (fun h => by cases h)⟩
variable {cfg : Cfg} {fu : FuncId} {o : Oper} {rs : List Key} {ws : WS} (hT : tabOk P cfg.tab cfg.tab = true) (hs : Sim B [] g n a w M ι Gs) (hd : inRange n o.dst = true) (hr : Run C g (evOp cfg fu o) rs ws) (Q : Exit → Act → World → Prop)
include hs hd hr
include hT in
theorem append_sound {c : Call} (ho : o.op = .call c) (hc : c.callee = .builtin .append) : o.wp P a w (Good B (gputs g ws) n) Q := by
  simp only [evOp, ho, hc] at hr
  split at hr
  case h_2 => exact hr.fail_inv.elim
  rename_i x y t t2 tl hxy htt
  replace hr := hr.opt_inv; obtain ⟨r, hrow, hr⟩ := hr
  replace hr := hr.opt_inv; obtain ⟨r2, hrow2, hr⟩ := hr
  split at hr
  case h_2 => exact hr.fail_inv.elim
  rename_i e hsub
  replace hr := hr.opt_inv; obtain ⟨er, her, hr⟩ := hr
  replace hr := hr.guard_inv; obtain ⟨hg, hr⟩ := hr
  rw [Bool.and_eq_true, Bool.or_eq_true] at hg
  have hb0 : 0 < er.bytes := Nat.le_of_ble_eq_true hg.1
  replace hr := hr.bind_inv; obtain ⟨_, _, a0, _, h1, hr⟩ := hr
  replace hr := hr.bind_inv; obtain ⟨_, _, b0, _, h2, hr⟩ := hr
  replace hr := hr.opt_inv; obtain ⟨old, hold, hr⟩ := hr
  replace hr := hr.opt_inv; obtain ⟨new, hnew, hr⟩ := hr
  replace hr := hr.guard_inv; obtain ⟨hby, hr⟩ := hr
  replace hr := hr.ret_inv; obtain ⟨e', _⟩ := hr; subst e'
  have hby := of_decide_eq_true hby
  obtain ⟨hu, er', her', hck⟩ := under_slice hT hrow hsub
  rw [her] at her'; cases her'
  have hR := rowOk_of hT her
  obtain ⟨ie, hi, hsz, hbi, hz⟩ := hR.info
  have hzc : ∃ z, ie.zero = some z ∧ z.cells.size = er.cks.length := by
    rcases hz with ⟨_, hz⟩ | ⟨_, c, hc, hz⟩
    · exact ⟨_, hz, by simp [Value.cells]⟩
    · refine ⟨_, hz, ?_⟩
      rw [hc]; cases c <;> rfl
  obtain ⟨z, hz1, hz2⟩ := hzc
  have hty : er.cks.length = er.ty.size := by rw [hck, cksTy_len]
  have hd2 : ∃ d, P.underlying t2 = some d ∧ ((∃ e2, d = .slice e2) ∨ d = .string) := by
    rcases hg.2 with h | h
    · obtain ⟨e2, _, _, hu2, _⟩ := under_list hT hrow2 h
      exact ⟨_, hu2, .inl ⟨e2, rfl⟩⟩
    · exact ⟨_, under_str hT hrow2 h, .inr rfl⟩
  obtain ⟨d2, ht2, hd2⟩ := hd2
  have ht0 : c.argTypes[0]? = some t := by rw [← Array.getElem?_toList, htt]; rfl
  have ht1 : c.argTypes[1]? = some t2 := by rw [← Array.getElem?_toList, htt]; rfl
  have hargs := arr2 hxy
  have hlk := look_sound hs h2
  have hyc : ∃ yc, rowsR M er.ty new yc ∧ AppArg P w er.ty.size (a.eval y) new.length yc := by
    obtain ⟨eid, eagg, ecks, ety, eb, esub⟩ := er
    dsimp only at hnew ⊢
    cases b0
    case list t' xs ow =>
      dsimp only at hnew
      cases hq : Ty.eq? t' ety with
      | none => rw [hq] at hnew; cases hnew
      | some h =>
        rw [hq] at hnew
        obtain ⟨h⟩ := h
        subst h
        cases hnew
        obtain ⟨us, h3, h4⟩ := hlk.list
        exact ⟨us, h3, AppArg.reads h4⟩
    case nils =>
      cases hnew
      have hv : a.eval y = .slice none 0 0 := hlk.nils
      rw [hv]
      exact ⟨[], rfl, AppArg.reads (Reads.nil w _)⟩
    case str s =>
      dsimp only at hnew
      cases hq : Ty.eq? (.int .u8) ety with
      | none => rw [hq] at hnew; cases hnew
      | some h =>
        rw [hq] at hnew
        obtain ⟨h⟩ := h
        subst h
        cases hnew
        have hv : a.eval y = .string s := hlk.str
        have hl : s.size = (bytesOf s).length := by simp [bytesOf]
        have := AppArg.string (P := P) (w := w) s
        rw [hl] at this
        rw [hv]
        exact ⟨_, rowsR_u8' (bytesOf s), this⟩
    all_goals cases hnew
  obtain ⟨yc, hyr, hya⟩ := hyc
  have hlen : old.1.length + new.length ≤ 140737488355328 := by
    have : (old.1.length + new.length) * 1 ≤ (old.1.length + new.length) * er.bytes := Nat.mul_le_mul_left _ hb0
    omega
  obtain ⟨G0, hV, hn, hrf, hk⟩ := opnd_sound hs h1
  have hexec : ∀ {v' : Value} {w' : World}, (Builtin.append_ c.argTypes o.type #[a.eval x, a.eval y]).run P w = .ok v' w' → (execOp a.eval o).run P w = .ok (.value v') w' := by
    intro v' w' h
    simp [execOp, ho, resolve, hc, invoke, builtin, hargs, h]
  have hgo : ownR M (fun k => w.heap[k]?) er.ty old.1 old.2 (a.eval x) G0 → ∃ v' w' M' G', (execOp a.eval o).run P w = .ok (.value v') w' ∧ ownR M' (fun k => w'.heap[k]?) er.ty (old.1 ++ new) old.2 v' G' ∧ Fr G0 w w' ∧ Mle M M' ∧ (∀ b o, M' b o ≠ M b o → b ∈ G0 ∨ b = w.heap.size) ∧
      (∀ b o v, M' b o = some v → w'.cell? ⟨b, o, none⟩ = some v) ∧ (∀ y ∈ G', y ∈ G0 ∨ (y = w.heap.size ∧ y < w'.heap.size)) ∧ G'.Nodup := by
    intro hown
    obtain ⟨v', w', M', G', h3, h4⟩ := append_own (ty := o.type) ht0 ht1 hu ht2 hd2 hi hz1 (by rw [hsz, hty]) hbi (by rw [hz2, hty]) hs.stable hown hyr hya (by simp only [maxLen]; omega) hby
    exact ⟨v', w', M', G', hexec h3, h4⟩
  obtain ⟨eid, eagg, ecks, ety, eb, esub⟩ := er
  dsimp only at old new hold hnew hgo hyr hya ⊢
  cases a0
  case list t' xs ow =>
    cases ow
    case no => cases hold
    case nil =>
      dsimp only at hold
      cases hq : Ty.eq? t' ety with
      | none => rw [hq] at hold; cases hold
      | some h =>
        rw [hq] at hold
        obtain ⟨h⟩ := h
        subst h
        cases hold
        obtain ⟨⟨q1, q2⟩, q3⟩ := hV
        subst q1 q3
        obtain ⟨v', w', M', G', h3, h4, h5, h6, h7, h8, h9, h10⟩ := hgo (.inl ⟨rfl, rfl, q2⟩)
        exact append_fin hs hd (fun y hy => by cases hy) h4 h5 h6 h7 h8 h9 h10 h3 Q
    case own s f =>
      dsimp only at hold
      cases hq : Ty.eq? t' ety with
      | none => rw [hq] at hold; cases hold
      | some h =>
        rw [hq] at hold
        obtain ⟨h⟩ := h
        subst h
        cases hold
        cases hkx : keyOf x with
        | none =>
          cases x
          case tmp => cases hkx
          case const c0 =>
            obtain ⟨e1, _⟩ := h1.ret_inv
            have := const_notown c0
            rw [← e1] at this; cases this
          case func => obtain ⟨e1, _⟩ := h1.ret_inv; cases e1
          case global => exact h1.fail_inv.elim
        | some k =>
          obtain ⟨hk1, hk2, hk3⟩ := hk k hkx
          obtain ⟨v', w', M', G', h3, h4, h5, h6, h7, h8, h9, h10⟩ := hgo (show ownR M (fun k => w.heap[k]?) t' xs s (a.eval x) G0 from hV)
          have hs1 := hs.relabel (k := k) (V := .dead) (Gn := []) (M' := M) (X' := G0) (Mle.refl _) (fun b o e => absurd rfl e) hs.stable (fun v _ => rfl) rfl (fun _ => rfl) (fun h => by cases h) (by rw [hk1]; rfl)
            (fun b hb => by cases hb) (fun x hx => by cases hx) List.nodup_nil (fun x hx => ⟨.inr (by rw [hk3]; exact hx), fun h => by cases h⟩) (fun h => by cases h)
          exact append_fin hs1 hd (fun y hy => hy) h4 h5 h6 h7 h8 h9 h10 h3 Q
  case nils =>
    cases hold
    obtain ⟨q2, q3⟩ := hV
    subst q3
    obtain ⟨v', w', M', G', h3, h4, h5, h6, h7, h8, h9, h10⟩ := hgo (.inl ⟨rfl, rfl, q2⟩)
    exact append_fin hs hd (fun y hy => by cases hy) h4 h5 h6 h7 h8 h9 h10 h3 Q
  all_goals cases hold
end
end Go.Proofs.Ytkfphlmbdppbfaa.Vm
