/- lamplighterref03.Events: some events of one key, with numbers. No condition. -/
import Derived.Test.YtcnoaflojojfkabEvents
namespace Go.Proofs.Ytcnoaflojojfkab.Evt
open Go.RowKit Go.Proofs.Ytcnoaflojojfkab.Pat Go.Proofs.Ytcnoaflojojfkab.Qry
set_option linter.unusedVariables false
set_option linter.unusedSimpArgs false
set_option maxRecDepth 100000
/-- an event's values can be read -/
def Sees4 (W : World) (x : Ev) : Prop := x.vn ≤ 3 ∧ ∃ vs : List Vl, vs.length = x.vn ∧ Reads W 4 (.slice x.va x.vn x.vc) x.vn (vs.flatMap Vl.cells)
/-- they lie elsewhere -/
def EOff (lo hi : Nat) (bad : List Nat) (x : Ev) : Prop := ∀ g, (Value.slice x.va x.vn x.vc).ownBlock = some g → lo ≤ g ∧ g < hi ∧ g ∉ bad
theorem Sees4.fr {S : List Nat} {W W' : World} {x : Ev} {lo hi : Nat} (h : Sees4 W x) (ho : EOff lo hi S x) (hf : Fr S W W') : Sees4 W' x := by
  obtain ⟨h1, vs, h2, h3⟩ := h
  exact ⟨h1, vs, h2, h3.fr hf (fun b o c hv => (ho b (by rw [hv]; rfl)).2.2)⟩
theorem EOff.to {lo hi hi' : Nat} {bad bad' : List Nat} {x : Ev} (h : EOff lo hi bad x) (hh : hi ≤ hi') (hb : ∀ g ∈ bad', g ∈ bad ∨ hi ≤ g) : EOff lo hi' bad' x := fun g hg => by
  obtain ⟨h1, h2, h3⟩ := h g hg
  exact ⟨h1, by omega, fun hm => by rcases hb g hm with h | h; exact h3 h; omega⟩
theorem EOff.nil {lo hi : Nat} {bad : List Nat} {x : Ev} (h : EOff lo hi bad x) : EOff lo hi [] x := h.to (Nat.le_refl _) (fun _ hm => by cases hm)
def EGood (i : Nat) (x : Ev) : Prop := x.key = ⟨#[107]⟩ ∧ x.seq = (i : Int) + 1 ∧ 0 ≤ x.time ∧ x.time ≤ 15
/-- the events that are there -/
structure Evs (w W : World) (xs : List Ev) (a : Option Addr) (c : Nat) : Prop where
  view : View W w.heap.size 79 5 (.slice a xs.length c) xs.length (xs.flatMap Ev.cells)
  fr : Fr [] w W
  each : ∀ i x, xs[i]? = some x → EGood i x ∧ Sees4 W x ∧ EOff w.heap.size W.heap.size (Value.slice a xs.length c).ownBlock.toList x
theorem Evs.fr0 {w W W' : World} {xs : List Ev} {a : Option Addr} {c : Nat} (h : Evs w W xs a c) (hf : Fr [] W W') : Evs w W' xs a c :=
  ⟨h.view.fr0 hf, h.fr.trans0 hf, fun i x hx => by obtain ⟨h1, h2, h3⟩ := h.each i x hx; exact ⟨h1, h2.fr h3.nil hf, h3.to hf.size (fun _ hm => .inl hm)⟩⟩
theorem Evs.push {w W W' W1 : World} {xs : List Ev} {a a' : Option Addr} {c c' : Nat} (h : Evs w W xs a c) (x' : Ev) (hgood : EGood xs.length x') (hsees : Sees4 W x')
    (hoff : EOff w.heap.size W.heap.size (Value.slice a xs.length c).ownBlock.toList x') (hW : Fr [] W W')
    (hV : View W1 w.heap.size 79 5 (.slice a' (xs.length + 1) c') (xs.length + 1) (xs.flatMap Ev.cells ++ x'.cells)) (hg : W'.grownBy W1 (Value.slice a xs.length c).ownBlock)
    (hat : (Value.slice a' (xs.length + 1) c').ownBlock = (Value.slice a xs.length c).ownBlock ∨ (Value.slice a' (xs.length + 1) c').ownBlock = some W'.heap.size) : Evs w W1 (xs ++ [x']) a' c' := by
  have hl : (xs ++ [x']).length = xs.length + 1 := by simp
  have hF1 : Fr (Value.slice a xs.length c).ownBlock.toList W' W1 := Fr.of_grown hg
  have hs1 := hF1.size
  have hs0 := hW.size
  have held : ∀ x, Sees4 W x → EOff w.heap.size W.heap.size (Value.slice a xs.length c).ownBlock.toList x → Sees4 W1 x ∧ EOff w.heap.size W1.heap.size (Value.slice a' (xs.length + 1) c').ownBlock.toList x := by
    intro x h2 h3
    refine ⟨(h2.fr h3.nil hW).fr h3 hF1, h3.to (by omega) (fun g hm => ?_)⟩
    rw [Option.mem_toList] at hm
    rcases hat with hat | hat
    · left; rw [Option.mem_toList, ← hat]; exact hm
    · right
      rw [hat] at hm
      have : W'.heap.size = g := Option.some.inj hm
      omega
  refine ⟨?_, (h.fr.trans0 hW).grown hg (fun g hg => .inr (h.view.lt hg).1), ?_⟩
  · rw [hl, List.flatMap_append]; simpa using hV
  · intro i x hx
    rw [hl]
    by_cases hi : i < xs.length
    · rw [List.getElem?_append_left hi] at hx
      obtain ⟨h1, h2, h3⟩ := h.each i x hx
      exact ⟨h1, held x h2 h3⟩
    · rw [List.getElem?_append_right (by omega)] at hx
      have hi0 : i = xs.length := by
        have := (List.getElem?_eq_some_iff.1 hx).1
        simp at this; omega
      subst hi0
      rw [Nat.sub_self] at hx
      obtain rfl : x' = x := by simpa using hx
      exact ⟨hgood, held x' hsees hoff⟩
theorem info_event : (Try.prog.info? 79).map (fun i => (i.zero, i.size, i.bytes)) = some (some (.agg #[.string ⟨#[]⟩, .string ⟨#[]⟩, .int .i64 0, .int .i64 0, .slice none 0 0]), 5, 72) := by kernel_rfl
theorem reads_five (w : World) (v0 v1 v2 v3 v4 : Value) (t : TypeId) : Reads (w.alloc (.cells #[v0, v1, v2, v3, v4] t)) 5 (.slice (some ⟨w.heap.size, 0, none⟩) 1 1) 1 [v0, v1, v2, v3, v4] :=
  ⟨rfl, _, 1, rfl, Nat.le_refl _, .inr ⟨_, _, rfl, fun j u hu => by
    have := (Blk.new w [v0, v1, v2, v3, v4] t).cell (0 + j)
    rw [this, Nat.zero_add]; exact hu⟩⟩
theorem evok_fr0 {W W' : World} {x : Ev} (h : EvOk W x) (hf : Fr [] W W') : EvOk W' x := by
  obtain ⟨h1, h2, h3, vs, h4, h5⟩ := h
  exact ⟨h1, h2, h3, vs, h4, h5.fr0 hf⟩
set_option maxHeartbeats 8000000 in
theorem events_any (l : List Ev) (ap : Option Addr) (cp : Nat) (most : Nat) (hmost : most ≤ 20) (w : World) (hR : Reads w 5 (.slice ap l.length cp) l.length (l.flatMap Ev.cells)) (hok : ∀ e ∈ l, EvOk w e) (hlen : l.length ≤ maxLen) :
    Calls Try.prog 45 #[.slice ap l.length cp, .int .i64 most] w fun r w' => ∃ (xs : List Ev) (a : Option Addr) (c : Nat), r = .returned (.slice a xs.length c) ∧ xs.length = min l.length most ∧ Evs w w' xs a c := by
  obtain ⟨i0, hi0, hz0, hz1, hz2⟩ := info_parts info_event
  have HR := Lib.hid hR
  have HOK := Lib.hid hok
  clear hR hok
  have V0 : Hid (View (w.alloc (.cells #[] 79)) w.heap.size 79 5 (.slice (some ⟨w.heap.size, 0, none⟩) 0 0) 0 []) := Lib.hid (View.of_blk (Blk.new w [] _) (Nat.le_refl _) rfl (by decide))
  go_enter Try.func45, Try.ntmps45
  go_wp2_with fail
  go_loopw [5, 6, 7] (fun v5 v6 v7 wr => ∃ (xs : List Ev) (a : Option Addr) (c : Nat), v6 = .int .i64 xs.length ∧ v5 = .slice a xs.length c ∧ xs.length ≤ l.length ∧ xs.length ≤ most ∧ Evs w wr xs a c) (fun _ v6 _ _ => 20 - (intOf v6).toNat)
  case atStart => exact ⟨[], some ⟨w.heap.size, 0, none⟩, 0, rfl, rfl, Nat.zero_le _, Nat.zero_le _, V0.out, (Fr.refl _ _).alloc _, fun i x hx => by cases hx⟩
  case round =>
    obtain ⟨xs, a, c, rfl, rfl, hxl, hxm, hE⟩ := hrel
    have HE := Lib.hid hE
    clear hE V0
    by_cases hk : xs.length < l.length ∧ xs.length < most
    · obtain ⟨hkl, hkm⟩ := hk
      have hkI : (xs.length : Int) < (l.length : Int) := by omega
      obtain ⟨e, he⟩ : ∃ e, l[xs.length]? = some e := ⟨_, List.getElem?_eq_getElem hkl⟩
      obtain ⟨b, o, rfl⟩ := HR.out.rec_addr Ev.len (by omega) he
      have c0 := (HR.out.fr0 HE.out.fr).rec Ev.len he (k := 0) rfl
      have c1 := (HR.out.fr0 HE.out.fr).rec Ev.len he (k := 1) rfl
      have c2 := (HR.out.fr0 HE.out.fr).rec Ev.len he (k := 2) rfl
      have c3 := (HR.out.fr0 HE.out.fr).rec Ev.len he (k := 3) rfl
      have c4 := (HR.out.fr0 HE.out.fr).rec Ev.len he (k := 4) rfl
      rw [Nat.add_zero] at c0
      have HEO := Lib.hid (evok_fr0 (HOK.out e (List.mem_of_getElem? he)) HE.out.fr)
      clear he
      go_wp2_with fail
      refine (event_any e wr HEO.out).mono ?_
      rintro _ w1 ⟨x, rfl, hxt, hxs, hM, hf⟩
      have HX := Lib.hid hxt
      have HM := Lib.hid hM
      have HF := Lib.hid hf
      clear c0 c1 c2 c3 c4 HEO hxt hxs hM hf
      go_upto_region 6 with (fail)
      have B2 := Lib.hid (Blk.new w1 [.string x.typ, .string x.key, .int .i64 x.time, .int .i64 x.seq, .slice x.va x.vn x.vc] 79)
      have hf2 : Fr [] w1 (w1.alloc (.cells [.string x.typ, .string x.key, .int .i64 x.time, .int .i64 x.seq, .slice x.va x.vn x.vc].toArray 79)) := (Fr.refl _ _).alloc _
      have M2 : Hid (Made (w1.alloc (.cells [.string x.typ, .string x.key, .int .i64 x.time, .int .i64 x.seq, .slice x.va x.vn x.vc].toArray 79)) wr.heap.size x) := Lib.hid (by
        obtain ⟨m1, vs, m2, m3⟩ := HM.out
        exact ⟨m1, vs, m2, m3.fr0 hf2⟩)
      have NE : Hid (∀ g, (Value.slice x.va x.vn x.vc).ownBlock = some g → g ≠ w1.heap.size) := Lib.hid (fun g hg => by
        obtain ⟨_, vs, _, m3⟩ := HM.out
        have := (m3.lt hg).2; omega)
      have F2 := Lib.hid (HF.out.trans0 hf2)
      obtain ⟨eb, heb⟩ : ∃ q, q = w1.heap.size := ⟨_, rfl⟩
      obtain ⟨w2, hw2⟩ : ∃ W, W = w1.alloc (.cells [.string x.typ, .string x.key, .int .i64 x.time, .int .i64 x.seq, .slice x.va x.vn x.vc].toArray 79) := ⟨_, rfl⟩
      have HEB : Hid (wr.heap.size ≤ eb) := Lib.hid (by rw [heb]; exact HF.out.size)
      rw [← heb, ← hw2] at B2
      rw [← heb] at NE
      rw [← hw2] at M2 F2
      rw [show w1.alloc (.cells #[.string x.typ, .string x.key, .int .i64 x.time, .int .i64 x.seq, .slice x.va x.vn x.vc] 79) = w2 from hw2.symm, ← heb]
      clear hf2 heb hw2 HM HF
      have d1 := B2.out.cell_at (o := 1) rfl
      have d3 := B2.out.cell_at (o := 3) rfl
      have hfz := B2.out.thawed
      go_upto_region 7 with (fail)
      have B3 := Lib.hid ((B2.out.set 1 (.string ⟨#[107]⟩)).set 3 (.int .i64 ((xs.length : Int) + 1)))
      have hf3 : Fr [eb] w2 ((w2.setCell ⟨eb, 1, none⟩ (.string ⟨#[107]⟩)).setCell ⟨eb, 3, none⟩ (.int .i64 ((xs.length : Int) + 1))) := ((Fr.refl _ _).set (.inl (by simp)) _).set (.inl (by simp)) _
      have M3 : Hid (Made ((w2.setCell ⟨eb, 1, none⟩ (.string ⟨#[107]⟩)).setCell ⟨eb, 3, none⟩ (.int .i64 ((xs.length : Int) + 1))) wr.heap.size x) := Lib.hid (by
        obtain ⟨m1, vs, m2, m3⟩ := M2.out
        exact ⟨m1, vs, m2, m3.fr hf3 (fun g hg => by simpa using NE.out g hg)⟩)
      have F3 := Lib.hid (F2.out.trans hf3 (fun b hb => .inr (by simp at hb; rw [hb]; exact HEB.out)))
      obtain ⟨w3, hw3⟩ : ∃ W, W = (w2.setCell ⟨eb, 1, none⟩ (.string ⟨#[107]⟩)).setCell ⟨eb, 3, none⟩ (.int .i64 ((xs.length : Int) + 1)) := ⟨_, rfl⟩
      rw [← hw3] at B3 M3 F3 ⊢
      clear hw3 hf3 d1 d3 hfz B2 M2 F2
      have d0 := B3.out.cell_at (o := 0) rfl
      have d1 := B3.out.cell_at (o := 1) rfl
      have d2 := B3.out.cell_at (o := 2) rfl
      have d3 := B3.out.cell_at (o := 3) rfl
      have d4 := B3.out.cell_at (o := 4) rfl
      have HE3 := Lib.hid (HE.out.fr0 F3.out)
      have HOFF : Hid (EOff w.heap.size w3.heap.size (Value.slice a xs.length c).ownBlock.toList ⟨x.typ, ⟨#[107]⟩, x.time, (xs.length : Int) + 1, x.va, x.vn, x.vc⟩) := Lib.hid (fun g hg => by
        obtain ⟨_, vs, _, m3⟩ := M3.out
        have h1 := m3.lt hg
        have h2 := HE.out.fr.size
        exact ⟨by omega, h1.2, fun hm => by have := (HE.out.view.lt (Option.mem_toList.1 hm)).2; omega⟩)
      have HSEE : Hid (Sees4 w3 ⟨x.typ, ⟨#[107]⟩, x.time, (xs.length : Int) + 1, x.va, x.vn, x.vc⟩) := Lib.hid (by
        obtain ⟨m1, vs, m2, m3⟩ := M3.out
        exact ⟨m1, vs, m2, m3.reads⟩)
      have HT : Hid (0 ≤ x.time ∧ x.time ≤ 15) := Lib.hid (by rw [HX.out]; omega)
      clear M3 F3 HE HX NE
      go_wp2_with (first | (at_builtin; refine wpList_append_view _ rfl _ _ 64 rfl w.heap.size 79 i0 (.agg #[.string ⟨#[]⟩, .string ⟨#[]⟩, .int .i64 0, .int .i64 0, .slice none 0 0]) 5 72 Try.underlying64 hi0 hz0 hz1 hz2 rfl _ _ xs.length _ rfl (HE3.out.view.fr0 ((Fr.refl _ _).alloc _)) _ 1 [.string x.typ, .string ⟨#[107]⟩, .int .i64 x.time, .int .i64 ((xs.length : Int) + 1), .slice x.va x.vn x.vc] rfl (reads_five _ _ _ _ _ _ _) (by simp [Value.oneCell']) (by unfold maxLen; omega) (by omega) (by have := HE3.out.fr.size; simp; omega) ?_; intro a' c' w' hv' hg' hat'; have HV' := Lib.hid hv'; have HG' := Lib.hid hg'; have HAT' := Lib.hid hat'; clear hv' hg' hat'))
      go_roundw
      case rel =>
        exact ⟨xs ++ [⟨x.typ, ⟨#[107]⟩, x.time, (xs.length : Int) + 1, x.va, x.vn, x.vc⟩], a', c', by rw [List.length_append]; rfl, by rw [List.length_append]; rfl, by rw [List.length_append]; simp; omega, by rw [List.length_append]; simp; omega,
          HE3.out.push ⟨x.typ, ⟨#[107]⟩, x.time, (xs.length : Int) + 1, x.va, x.vn, x.vc⟩ ⟨rfl, rfl, HT.out.1, HT.out.2⟩ HSEE.out HOFF.out ((Fr.refl _ _).alloc _) HV'.out HG'.out HAT'.out⟩
      case measure => simp [intOf]; omega
    · by_cases hkl : xs.length < l.length
      · have hkm : most ≤ xs.length := by omega
        have hkI : (xs.length : Int) < (l.length : Int) := by omega
        have hd : decide ((xs.length : Int) < (most : Int)) = false := decide_eq_false (by omega)
        have HLN : Hid (xs.length = min l.length most) := Lib.hid (by omega)
        clear hk
        go_wp2_with fail
        go_ret
        exact ⟨xs, a, c, rfl, HLN.out, HE.out⟩
      · have hkm : l.length ≤ xs.length := by omega
        have HLN : Hid (xs.length = min l.length most) := Lib.hid (by omega)
        clear hk hkl
        go_wp2_with fail
        go_ret
        exact ⟨xs, a, c, rfl, HLN.out, HE.out⟩
end Go.Proofs.Ytcnoaflojojfkab.Evt
