/- lamplighterlaw08.rising: stamps whose times rise. No condition. -/
import Derived.Test.YtcnoaflojojfkabRises
import Derived.Test.YtcnoaflojojfkabBits
namespace Go.Proofs.Ytcnoaflojojfkab.Stamp
open Go.RowKit
set_option linter.unusedVariables false
set_option linter.unusedSimpArgs false
set_option maxRecDepth 100000
/-- a cell of one's own slice is written -/
theorem view_set {w : World} {B e size n c g off : Nat} {xs : List Value} (h : View w B e size (.slice (some ⟨g, off, none⟩) n c) n xs) {i : Nat} (hi : i < xs.length) (v : Value) :
    View (w.setCell ⟨g, off + i, none⟩ v) B e size (.slice (some ⟨g, off, none⟩) n c) n (xs.set i v) ∧ (∀ o, w.frozen? ⟨g, o, none⟩ = false) ∧ B ≤ g := by
  obtain ⟨hl, ⟨h0, _⟩ | ⟨g', off', cap', cs, hv, hB, hb, hn, hm, hf, ht⟩⟩ := h
  · cases h0
  · simp only [Value.slice.injEq, Option.some.injEq, Addr.mk.injEq, and_true, true_and] at hv
    obtain ⟨⟨rfl, rfl⟩, rfl⟩ := hv
    refine ⟨⟨by rw [List.length_set]; exact hl, .inr ⟨g, off, c, cs.set (off + i) v, rfl, hB, hb.set _ _, hn, hm, by rw [List.length_set]; exact hf, ?_⟩⟩, hb.thawed, hB⟩
    rw [← ht, List.drop_set, if_neg (by omega), List.take_set, show off + i - off = i by omega]
theorem view_rec {α : Type} {f : α → List Value} {s : Nat} (hf : ∀ a, (f a).length = s) {w : World} {B e n c g off : Nat} {l : List α} (h : View w B e s (.slice (some ⟨g, off, none⟩) n c) n (l.flatMap f)) {i : Nat} {a a' : α} (hi : l[i]? = some a) {k : Nat} (hk : k < s) {v : Value} (hv : f a' = (f a).set k v) :
    View (w.setCell ⟨g, off + i * s + k, none⟩ v) B e s (.slice (some ⟨g, off, none⟩) n c) n ((l.set i a').flatMap f) ∧ (∀ o, w.frozen? ⟨g, o, none⟩ = false) ∧ B ≤ g := by
  have hlt : i * s + k < (l.flatMap f).length := by
    rw [recs_len hf]
    have h1 := (List.getElem?_eq_some_iff.1 hi).1
    have h2 : (i + 1) * s ≤ l.length * s := Nat.mul_le_mul_right _ h1
    rw [Nat.succ_mul] at h2; omega
  have := view_set h hlt v
  rw [recs_set hf hi hk hv, ← Nat.add_assoc] at this
  exact this
theorem view_addr {α : Type} {f : α → List Value} {s : Nat} (hf : ∀ a, (f a).length = s) (hs : 0 < s) {w : World} {B e n c : Nat} {a : Option Addr} {l : List α} (h : View w B e s (.slice a n c) n (l.flatMap f)) {i : Nat} {x : α} (hi : l[i]? = some x) : ∃ b o, a = some ⟨b, o, none⟩ := h.reads.rec_addr hf hs hi

/-- stamps of one list, whose times rise -/
structure Up (a : Int) (l : List St) : Prop where
  len : l.length ≤ 12
  each : ∀ x ∈ l, x.s = 0 ∧ x.a = a
  mono : ∀ i x y, l[i]? = some x → l[i + 1]? = some y → x.t ≤ y.t
theorem Up.nil (a : Int) : Up a [] := ⟨by simp, (fun x hx => by cases hx), (fun i x y hx => by cases hx)⟩
theorem Up.push {a : Int} {l : List St} (h : Up a l) {t : Int} (ht : ∀ x ∈ l, x.t ≤ t) (hl : l.length < 12) {t' : Int} (hle : t ≤ t') : Up a (l ++ [⟨t', 0, a⟩]) ∧ ∀ x ∈ l ++ [⟨t', 0, a⟩], x.t ≤ t' := by
  refine ⟨⟨by simp; omega, fun x hx => ?_, fun i x y hx hy => ?_⟩, fun x hx => ?_⟩
  · rcases List.mem_append.1 hx with hx | hx
    · exact h.each x hx
    · rw [List.mem_singleton.1 hx]; exact ⟨rfl, rfl⟩
  · by_cases h1 : i + 1 < l.length
    · rw [List.getElem?_append_left (by omega)] at hx
      rw [List.getElem?_append_left h1] at hy
      exact h.mono i x y hx hy
    · have h2 := (List.getElem?_eq_some_iff.1 hy).1
      simp at h2
      rw [List.getElem?_append_right (by omega), show i + 1 - l.length = 0 by omega] at hy
      obtain rfl : (⟨t', 0, a⟩ : St) = y := by simpa using hy
      rw [List.getElem?_append_left (by omega)] at hx
      have := ht x (List.mem_of_getElem? hx)
      show x.t ≤ t'
      omega
  · rcases List.mem_append.1 hx with hx | hx
    · have := ht x hx; omega
    · rw [List.mem_singleton.1 hx]; exact Int.le_refl _
/-- some of a list's stamps have been given their list's number -/
def Half (a : Int) (k : Nat) (l l' : List St) : Prop := l'.length = l.length ∧ ∀ (i : Nat) (x : St), l'[i]? = some x → ∃ y, l[i]? = some y ∧ x.t = y.t ∧ x.s = y.s ∧ (i < k → x.a = a)
theorem Half.up {a : Int} {l l' : List St} (h : Half a l.length l l') (hl : Up 0 l) : Up a l' := by
  obtain ⟨h1, h2⟩ := h
  refine ⟨by rw [h1]; exact hl.len, fun x hx => ?_, fun i x y hx hy => ?_⟩
  · obtain ⟨i, hi⟩ := List.mem_iff_getElem?.1 hx
    obtain ⟨y, k1, k2, k3, k4⟩ := h2 i x hi
    exact ⟨by rw [k3]; exact (hl.each y (List.mem_of_getElem? k1)).1, k4 (List.getElem?_eq_some_iff.1 k1).1⟩
  · obtain ⟨x', k1, k2, _⟩ := h2 i x hx
    obtain ⟨y', j1, j2, _⟩ := h2 (i + 1) y hy
    rw [k2, j2]; exact hl.mono i x' y' k1 j1
theorem Half.set {a : Int} {k : Nat} {l l' : List St} {x : St} (h : Half a k l l') (hx : l'[k]? = some x) : Half a (k + 1) l (l'.set k ⟨x.t, x.s, a⟩) := by
  obtain ⟨h1, h2⟩ := h
  refine ⟨by rw [List.length_set]; exact h1, fun i z hz => ?_⟩
  rw [List.getElem?_set] at hz
  split at hz
  · rename_i hik
    subst hik
    split at hz
    · obtain ⟨y, k1, k2, k3, _⟩ := h2 k x hx
      obtain rfl : (⟨x.t, x.s, a⟩ : St) = z := by simpa using hz
      exact ⟨y, k1, k2, k3, fun _ => rfl⟩
    · cases hz
  · obtain ⟨y, k1, k2, k3, k4⟩ := h2 i z hz
    exact ⟨y, k1, k2, k3, fun hi => k4 (by omega)⟩
theorem info_stamp : (Try.prog.info? 49).map (fun i => (i.zero, i.size, i.bytes)) = some (some (.agg #[.int .i64 0, .int .i64 0, .int .i64 0]), 3, 24) := by kernel_rfl
theorem reads_three (w : World) (v0 v1 v2 : Value) (t : TypeId) : Reads (w.alloc (.cells #[v0, v1, v2] t)) 3 (.slice (some ⟨w.heap.size, 0, none⟩) 1 1) 1 [v0, v1, v2] :=
  ⟨rfl, _, 1, rfl, Nat.le_refl _, .inr ⟨_, _, rfl, fun j u hu => by
    have := (Blk.new w [v0, v1, v2] t).cell (0 + j)
    rw [this, Nat.zero_add]; exact hu⟩⟩
theorem int_at {w : World} {a : Option Addr} {n c : Nat} {xs : List Int} (h : Reads w 1 (.slice a n c) n (xs.map (Value.int .i64))) {j : Nat} {x : Int} (hx : xs[j]? = some x) : ∃ b o, a = some ⟨b, o, none⟩ ∧ w.cell? ⟨b, o + j, none⟩ = some (.int .i64 x) := by
  obtain ⟨_, a', c', hv, _, h | ⟨b, o, h2, h⟩⟩ := h
  · have := congrArg List.length h
    have h3 := (List.getElem?_eq_some_iff.1 hx).1
    simp at this; rw [this] at h3; simp at h3
  · simp only [Value.slice.injEq, true_and] at hv
    exact ⟨b, o, by rw [hv.1, h2], h _ _ (by rw [List.getElem?_map, hx]; rfl)⟩

set_option maxHeartbeats 8000000 in
theorem rising_any (zs : List Int) (ap : Option Addr) (cp : Nat) (at_ : Int) (w : World) (hR : Reads w 1 (.slice ap zs.length cp) zs.length (zs.map (Value.int .i64))) (hlen : zs.length * 8 ≤ 140737488351232) :
    Calls Try.prog 36 #[.slice ap zs.length cp, .int .i64 at_] w fun e w' => ∃ (l : List St) (a : Option Addr) (c : Nat), e = .returned (.slice a l.length c) ∧ Up at_ l ∧
      View w' w.heap.size 49 3 (.slice a l.length c) l.length (l.flatMap St.cells) ∧ Fr [] w w' := by
  obtain ⟨i0, hi0, hz0, hz1, hz2⟩ := info_parts info_stamp
  have HR : Hid (∀ W, Fr [] w W → Reads W 1 (.slice ap zs.length cp) zs.length (zs.map (Value.int .i64))) := Lib.hid (fun W hW => hR.fr0 hW)
  clear hR
  go_enter Try.func36, Try.ntmps36
  go_upto_block 0 with (fail)
  have V0 : Hid (View (w.alloc (.cells #[] 49)) w.heap.size 49 3 (.slice (some ⟨w.heap.size, 0, none⟩) 0 0) 0 []) := Lib.hid (View.of_blk (Blk.new w [] _) (Nat.le_refl _) rfl (by decide))
  go_cut [5, 6, 7] (fun v5 v6 v7 wc => ∃ (l : List St) (a : Option Addr) (c : Nat), v5 = .slice a l.length c ∧ Up 0 l ∧ View wc w.heap.size 49 3 (.slice a l.length c) l.length (l.flatMap St.cells) ∧ Fr [] w wc)
  case first =>
    go_wp2_with fail
    go_loopw [5, 6, 7] (fun v5 v6 v7 wr => ∃ (l : List St) (a : Option Addr) (c : Nat) (t : Int), v7 = .int .i64 l.length ∧ v5 = .slice a l.length c ∧ v6 = .int .i64 t ∧ 0 ≤ t ∧ t ≤ 3 * l.length ∧ Up 0 l ∧ (∀ x ∈ l, x.t ≤ t) ∧
      View wr w.heap.size 49 3 (.slice a l.length c) l.length (l.flatMap St.cells) ∧ Fr [] w wr) (fun _ _ v7 _ => 12 - (intOf v7).toNat)
    case atStart => exact ⟨[], some ⟨w.heap.size, 0, none⟩, 0, 0, rfl, rfl, rfl, by omega, by simp, Up.nil 0, (fun x hx => by cases hx), V0.out, (Fr.refl _ _).alloc _⟩
    case round =>
      obtain ⟨l, a, c, t, rfl, rfl, rfl, ht0, ht3, hU, hT, hV, hF⟩ := hrel
      have HU := Lib.hid hU
      have HT := Lib.hid hT
      have HV := Lib.hid hV
      have HF := Lib.hid hF
      clear hU hT hV hF V0
      by_cases hk : l.length < zs.length ∧ l.length < 12
      · obtain ⟨hkz, hk12⟩ := hk
        have hd12 : decide ((l.length : Int) < 12) = true := decide_eq_true (by omega)
        obtain ⟨z, hz⟩ : ∃ z, zs[l.length]? = some z := ⟨zs[l.length], by simp [hkz]⟩
        obtain ⟨b, o, rfl, hc⟩ := int_at (HR.out wr HF.out) hz
        have hb : bits .and .i64 z 3 = z % 4 := and3 z
        clear hz
        go_wp2_with (first | (at_builtin; refine wpList_append_view _ rfl _ _ 45 rfl w.heap.size 49 i0 (.agg #[.int .i64 0, .int .i64 0, .int .i64 0]) 3 24 Try.underlying45 hi0 hz0 hz1 hz2 rfl _ _ l.length _ rfl (HV.out.fr0 ((Fr.refl _ _).alloc _)) _ 1 [.int .i64 (t + z % 4), .int .i64 0, .int .i64 0] rfl (reads_three _ _ _ _ _) (by simp [Value.oneCell']) (by unfold maxLen; omega) (by omega) (by have := HF.out.size; simp; omega) ?_; intro a' c' w' hv' hg' hat'; have HV' := Lib.hid hv'; have HG' := Lib.hid hg'; clear hv' hg' hat'))
        go_roundw
        case rel =>
          have hp := HU.out.push HT.out hk12 (t' := t + z % 4) (by omega)
          refine ⟨l ++ [⟨t + z % 4, 0, 0⟩], a', c', t + z % 4, by rw [List.length_append]; rfl, by rw [List.length_append]; rfl, rfl, by omega, by rw [List.length_append]; simp; omega, hp.1, hp.2, ?_, (HF.out.alloc _).grown HG'.out (fun j hj => .inr (HV.out.lt hj).1)⟩
          rw [List.length_append, List.flatMap_append]
          exact HV'.out
        case measure => simp [intOf]; omega
      · by_cases hkz : l.length < zs.length
        · have hd12 : decide ((l.length : Int) < 12) = false := decide_eq_false (by omega)
          go_wp2_with fail
          go_meet
          case rel => exact ⟨l, a, c, rfl, HU.out, HV.out, HF.out⟩
        · go_wp2_with fail
          go_meet
          case rel => exact ⟨l, a, c, rfl, HU.out, HV.out, HF.out⟩
  case rest =>
    obtain ⟨l, a, c, rfl, hU, hV, hF⟩ := hcut
    obtain ⟨wa, rfl⟩ : ∃ W, W = wc := ⟨_, rfl⟩
    have HU := Lib.hid hU
    have HV0 := Lib.hid hV
    have HF0 := Lib.hid hF
    clear hU hV hF V0
    have hl12 : l.length ≤ 12 := HU.out.len
    go_wp2_with fail
    go_loopw [8] (fun v8 wr => ∃ (l' : List St) (k : Nat), v8 = .int .i64 k ∧ k ≤ l.length ∧ Half at_ k l l' ∧ View wr w.heap.size 49 3 (.slice a l.length c) l.length (l'.flatMap St.cells) ∧ Fr [] w wr) (fun v8 _ => l.length - (intOf v8).toNat)
    case atStart => exact ⟨l, 0, rfl, Nat.zero_le _, ⟨rfl, fun i x hx => ⟨x, hx, rfl, rfl, fun h => by omega⟩⟩, HV0.out, HF0.out⟩
    case round =>
      obtain ⟨l', k, rfl, hk, hH, hV, hF⟩ := hrel
      have HH := Lib.hid hH
      have HV := Lib.hid hV
      have HF := Lib.hid hF
      clear hH hV hF
      by_cases hkl : k < l.length
      · obtain ⟨x, hx⟩ : ∃ x, l'[k]? = some x := ⟨l'[k]'(by rw [HH.out.1]; exact hkl), List.getElem?_eq_getElem _⟩
        obtain ⟨b, o, rfl⟩ := view_addr St.len (by omega) HV.out hx
        have hc : wr.cell? ⟨b, o + k * 3 + 2, none⟩ = some (.int .i64 x.a) := HV.out.reads.rec St.len hx rfl
        have hs := view_rec St.len HV.out hx (a' := ⟨x.t, x.s, at_⟩) (k := 2) (by omega) (v := .int .i64 at_) rfl
        have hfz := hs.2.1
        have HS := Lib.hid hs
        have HX := Lib.hid hx
        clear hs hx
        go_wp2_with fail
        go_roundw
        case rel => exact ⟨l'.set k ⟨x.t, x.s, at_⟩, k + 1, by go_num, by omega, HH.out.set HX.out, HS.out.1, HF.out.set (.inr HS.out.2.2) _⟩
        case measure => simp [intOf]; omega
      · obtain rfl : k = l.length := by omega
        go_wp2_with fail
        go_ret
        rw [← HH.out.1]
        have hV := HV.out
        rw [← HH.out.1] at hV
        exact ⟨l', a, c, rfl, HH.out.up HU.out, hV, HF.out⟩
end Go.Proofs.Ytcnoaflojojfkab.Stamp
