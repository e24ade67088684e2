/- The queries that the statements make by picks (lamplighterref16.Query): what they are in memory. No condition. -/
import Derived.Test.YtcnoaflojojfkabQueryParts
namespace Go.Proofs.Ytcnoaflojojfkab.Qry
open Go.RowKit Go.Proofs.Ytcnoaflojojfkab.Pat
set_option linter.unusedVariables false
set_option linter.unusedSimpArgs false
set_option maxRecDepth 100000

/-- the variable of an element, by its place -/
def varOf (i : Nat) : ByteArray := match i with | 0 => ⟨#[97]⟩ | 1 => ⟨#[98]⟩ | 2 => ⟨#[99]⟩ | _ => ⟨#[101]⟩
/-- what is so of an element at a place -/
def Good (n i : Nat) (e : El) : Prop := e.var = varOf i ∧ 1 ≤ e.mn ∧ e.mn ≤ e.mx ∧ e.mn ≤ 2 ∧ e.mx ≤ 3 ∧ (e.neg = true → 0 < i ∧ i + 1 < n)
/-- what its slices hold -/
def Held (W : World) (e : El) : Prop := (∃ ts : List ByteArray, ts.length = e.tn ∧ 1 ≤ e.tn ∧ e.tn ≤ 3 ∧ Reads W 1 (.slice e.ta e.tn e.tc) e.tn (ts.map Value.string)) ∧ ∃ ns : List Nd, ns.length = e.pn ∧ e.pn ≤ 7 ∧ Reads W 7 (.slice e.pa e.pn e.pc) e.pn (ns.flatMap Nd.cells)
/-- they lie elsewhere -/
def Off (lo hi : Nat) (bad : List Nat) (e : El) : Prop := ∀ g, (Value.slice e.ta e.tn e.tc).ownBlock = some g ∨ (Value.slice e.pa e.pn e.pc).ownBlock = some g → lo ≤ g ∧ g < hi ∧ g ∉ bad
theorem Held.fr {S : List Nat} {W W' : World} {e : El} {lo hi : Nat} (h : Held W e) (ho : Off lo hi S e) (hf : Fr S W W') : Held W' e := by
  obtain ⟨⟨ts, h1, h2, h3, h4⟩, ns, h5, h6, h7⟩ := h
  exact ⟨⟨ts, h1, h2, h3, h4.fr hf (fun b o c hv => (ho b (.inl (by rw [hv]; rfl))).2.2)⟩, ns, h5, h6, h7.fr hf (fun b o c hv => (ho b (.inr (by rw [hv]; rfl))).2.2)⟩
theorem Off.to {lo hi hi' : Nat} {bad bad' : List Nat} {e : El} (h : Off lo hi bad e) (hh : hi ≤ hi') (hb : ∀ g ∈ bad', g ∈ bad ∨ hi ≤ g) : Off lo hi' bad' e := fun g hg => by
  obtain ⟨h1, h2, h3⟩ := h g hg
  exact ⟨h1, by omega, fun hm => by rcases hb g hm with h | h; exact h3 h; omega⟩
theorem Off.nil {lo hi : Nat} {bad : List Nat} {e : El} (h : Off lo hi bad e) : Off lo hi [] e := h.to (Nat.le_refl _) (fun _ hm => by cases hm)
/-- the elements that are there, at the head of a round -/
structure Mid (w W : World) (n : Nat) (es : List El) (a : Option Addr) (c : Nat) (win cap : Int) : Prop where
  top : Blk W w.heap.size [.slice a es.length c, .int .i64 win, .int .i64 cap] 67
  view : View W (w.heap.size + 1) 83 6 (.slice a es.length c) es.length (qcells es)
  fr : Fr [] w W
  len : es.length ≤ n
  each : ∀ i e, es[i]? = some e → Good n i e ∧ Held W e ∧ Off (w.heap.size + 1) W.heap.size (Value.slice a es.length c).ownBlock.toList e
theorem Mid.fr0 {w W W' : World} {n : Nat} {es : List El} {a : Option Addr} {c : Nat} {win cap : Int} (h : Mid w W n es a c win cap) (hf : Fr [] W W') : Mid w W' n es a c win cap :=
  ⟨h.top.fr hf (by simp), h.view.fr0 hf, h.fr.trans0 hf, h.len, fun i e he => by obtain ⟨h1, h2, h3⟩ := h.each i e he; exact ⟨h1, h2.fr h3.nil hf, h3.to hf.size (fun _ hm => .inl hm)⟩⟩
theorem Blk.fr0 {w w1 : World} {b : Nat} {cs : List Value} {t : TypeId} (h : Blk w b cs t) (hf : Fr [] w w1) : Blk w1 b cs t := h.fr hf (by simp)
theorem and_nat (x k : Nat) (j : Nat) (hj : j ≤ 62) (hk : (BitVec.ofInt 64 (k : Int)).toNat = 2 ^ j - 1) : bits .and .i64 (x : Int) k = ((x % 2 ^ j : Nat) : Int) := by
  rw [and_mask (x : Int) k j hj hk]; rfl

theorem Mid.sets {w W W' : World} {n : Nat} {es : List El} {a : Option Addr} {c : Nat} {win cap : Int} (h : Mid w W n es a c win cap) (hf : Fr [w.heap.size] W W')
    (ht : Blk W' w.heap.size [.slice a es.length c, .int .i64 win, .int .i64 cap] 67) : Mid w W' n es a c win cap :=
  ⟨ht, h.view.fr hf (fun g hg => by have := (h.view.lt hg).1; simp; omega), h.fr.trans hf (fun b hb => .inr (by simp at hb; omega)), h.len, fun i e he => by
    obtain ⟨h1, h2, h3⟩ := h.each i e he
    refine ⟨h1, h2.fr (lo := w.heap.size + 1) (hi := W.heap.size) (fun g hg => ?_) hf, h3.to hf.size (fun _ hm => .inl hm)⟩
    obtain ⟨k1, k2, k3⟩ := h3 g hg
    exact ⟨k1, k2, by simp; omega⟩⟩
theorem Mid.push {w W W' W1 : World} {n : Nat} {es : List El} {a a' : Option Addr} {c c' : Nat} {win cap : Int} (h : Mid w W n es a c win cap) (e' : El) (hlt : es.length < n) (hgood : Good n es.length e') (hheld : Held W e')
    (hoff : Off (w.heap.size + 1) W.heap.size (Value.slice a es.length c).ownBlock.toList e') (hW : Fr [] W W')
    (hV : View W1 (w.heap.size + 1) 83 6 (.slice a' (es.length + 1) c') (es.length + 1) (qcells es ++ e'.cells)) (hg : W'.grownBy W1 (Value.slice a es.length c).ownBlock)
    (hat : (Value.slice a' (es.length + 1) c').ownBlock = (Value.slice a es.length c).ownBlock ∨ (Value.slice a' (es.length + 1) c').ownBlock = some W'.heap.size) :
    Mid w (W1.setCell ⟨w.heap.size, 0, none⟩ (.slice a' (es.length + 1) c')) n (es ++ [e']) a' c' win cap := by
  have hl : (es ++ [e']).length = es.length + 1 := by simp
  have hown : ∀ g, (Value.slice a es.length c).ownBlock = some g → w.heap.size + 1 ≤ g := fun g hg => (h.view.lt hg).1
  have hF1 : Fr (Value.slice a es.length c).ownBlock.toList W' W1 := Fr.of_grown hg
  have hF2 : Fr [w.heap.size] W1 (W1.setCell ⟨w.heap.size, 0, none⟩ (.slice a' (es.length + 1) c')) := (Fr.refl _ _).set (.inl (by simp)) _
  have hs2 := hF2.size
  have hs1 := hF1.size
  have hs0 := hW.size
  have held : ∀ e, Held W e → Off (w.heap.size + 1) W.heap.size (Value.slice a es.length c).ownBlock.toList e →
      Held (W1.setCell ⟨w.heap.size, 0, none⟩ (.slice a' (es.length + 1) c')) e ∧ Off (w.heap.size + 1) (W1.setCell ⟨w.heap.size, 0, none⟩ (.slice a' (es.length + 1) c')).heap.size (Value.slice a' (es.length + 1) c').ownBlock.toList e := by
    intro e h2 h3
    refine ⟨((h2.fr h3.nil hW).fr h3 hF1).fr (lo := w.heap.size + 1) (hi := W.heap.size) (fun g hg => ?_) hF2, h3.to (by omega) (fun g hm => ?_)⟩
    · obtain ⟨k1, k2, k3⟩ := h3 g hg
      exact ⟨k1, k2, by simp; omega⟩
    · rw [Option.mem_toList] at hm
      rcases hat with hat | hat
      · left; rw [Option.mem_toList, ← hat]; exact hm
      · right
        rw [hat] at hm
        have : W'.heap.size = g := Option.some.inj hm
        omega
  refine ⟨?_, ?_, ?_, by omega, ?_⟩
  · rw [hl]
    have h1 : Blk W1 w.heap.size [.slice a es.length c, .int .i64 win, .int .i64 cap] 67 := (h.top.fr hW (by simp)).fr hF1 (fun hm => by have := hown _ (Option.mem_toList.1 hm); omega)
    exact h1.set 0 _
  · rw [hl]
    have e1 : qcells (es ++ [e']) = qcells es ++ e'.cells := by unfold qcells; simp
    rw [e1]
    exact hV.fr hF2 (fun g hg => by have := (hV.lt hg).1; simp; omega)
  · exact ((h.fr.trans0 hW).grown hg (fun g hg => .inr (by have := hown g hg; omega))).trans hF2 (fun b hb => .inr (by simp at hb; omega))
  · intro i e he
    rw [hl]
    by_cases hi : i < es.length
    · rw [List.getElem?_append_left hi] at he
      obtain ⟨h1, h2, h3⟩ := h.each i e he
      exact ⟨h1, held e h2 h3⟩
    · rw [List.getElem?_append_right (by omega)] at he
      have hi0 : i = es.length := by
        have := (List.getElem?_eq_some_iff.1 he).1
        simp at this; omega
      subst hi0
      rw [Nat.sub_self] at he
      obtain rfl : e' = e := by simpa using he
      exact ⟨hgood, held e' hheld hoff⟩
theorem info_elem : (Try.prog.info? 83).map (fun i => (i.zero, i.size, i.bytes)) = some (some (.agg #[.string ⟨#[]⟩, .slice none 0 0, .bool false, .int .i64 0, .int .i64 0, .slice none 0 0]), 6, 88) := by kernel_rfl
theorem reads_six (w : World) (v0 v1 v2 v3 v4 v5 : Value) (t : TypeId) : Reads (w.alloc (.cells #[v0, v1, v2, v3, v4, v5] t)) 6 (.slice (some ⟨w.heap.size, 0, none⟩) 1 1) 1 [v0, v1, v2, v3, v4, v5] :=
  ⟨rfl, _, 1, rfl, Nat.le_refl _, .inr ⟨_, _, rfl, fun j u hu => by
    have := (Blk.new w [v0, v1, v2, v3, v4, v5] t).cell (0 + j)
    rw [this, Nat.zero_add]; exact hu⟩⟩
theorem vars_get {k : Nat} (hk : k < 4) : [Value.string ⟨#[97]⟩, .string ⟨#[98]⟩, .string ⟨#[99]⟩, .string ⟨#[101]⟩][k]? = some (.string (varOf k)) := by
  match k, hk with
  | 0, _ => rfl
  | 1, _ => rfl
  | 2, _ => rfl
  | 3, _ => rfl
/-- the element that is being made: its block, and its types -/
structure New (wr W : World) (eb k : Nat) (ta : Option Addr) (tn tc : Nat) (neg : Bool) (mn mx : Int) : Prop where
  fr : Fr [] wr W
  at_ : wr.heap.size ≤ eb
  blk : Blk W eb [.string (varOf k), .slice ta tn tc, .bool neg, .int .i64 mn, .int .i64 mx, .slice none 0 0] 83
  tys : ∃ ts : List ByteArray, ts.length = tn ∧ 1 ≤ tn ∧ tn ≤ 3 ∧ View W wr.heap.size 9 1 (.slice ta tn tc) tn (ts.map Value.string)
  ne : ∀ g, (Value.slice ta tn tc).ownBlock = some g → g ≠ eb
theorem New.set {wr W : World} {eb k : Nat} {ta : Option Addr} {tn tc : Nat} {neg neg' : Bool} {mn mx mn' mx' : Int} (h : New wr W eb k ta tn tc neg mn mx) {W' : World} (hF : Fr [eb] W W')
    (hb : Blk W' eb [.string (varOf k), .slice ta tn tc, .bool neg', .int .i64 mn', .int .i64 mx', .slice none 0 0] 83) : New wr W' eb k ta tn tc neg' mn' mx' := by
  obtain ⟨h1, h2, h3, ⟨ts, h4, h5, h6, h7⟩, h8⟩ := h
  exact ⟨h1.trans hF (fun b hb => .inr (by simp at hb; omega)), h2, hb, ⟨ts, h4, h5, h6, h7.fr hF (fun g hg => by simpa using h8 g hg)⟩, h8⟩
theorem New.fr0 {wr W W' : World} {eb k : Nat} {ta : Option Addr} {tn tc : Nat} {neg : Bool} {mn mx : Int} (h : New wr W eb k ta tn tc neg mn mx) (hF : Fr [] W W') : New wr W' eb k ta tn tc neg mn mx :=
  h.set (hF.wide (by simp)) (h.blk.fr hF (by simp))
theorem six_sets {W : World} {eb : Nat} {t : TypeId} {z0 z1 z2 z3 z4 z5 : Value} (h : Blk W eb [z0, z1, z2, z3, z4, z5] t) (v0 v1 v2 v3 v4 v5 : Value) :
    Blk ((((((W.setCell ⟨eb, 0, none⟩ v0).setCell ⟨eb, 1, none⟩ v1).setCell ⟨eb, 2, none⟩ v2).setCell ⟨eb, 3, none⟩ v3).setCell ⟨eb, 4, none⟩ v4).setCell ⟨eb, 5, none⟩ v5) eb [v0, v1, v2, v3, v4, v5] t ∧
    Fr [eb] W ((((((W.setCell ⟨eb, 0, none⟩ v0).setCell ⟨eb, 1, none⟩ v1).setCell ⟨eb, 2, none⟩ v2).setCell ⟨eb, 3, none⟩ v3).setCell ⟨eb, 4, none⟩ v4).setCell ⟨eb, 5, none⟩ v5) :=
  ⟨(((((h.set 0 v0).set 1 v1).set 2 v2).set 3 v3).set 4 v4).set 5 v5, ((((((Fr.refl [eb] W).set (.inl (by simp)) _).set (.inl (by simp)) _).set (.inl (by simp)) _).set (.inl (by simp)) _).set (.inl (by simp)) _).set (.inl (by simp)) _⟩
set_option maxHeartbeats 8000000 in
theorem query_any (zs : List Int) (ap : Option Addr) (cp : Nat) (w : World) (hR : Reads w 1 (.slice ap zs.length cp) zs.length (zs.map (Value.int .i64))) (hlen : zs.length * 8 ≤ 140737488351232) :
    Calls Try.prog 44 #[.slice ap zs.length cp] w fun e w' => ∃ (es : List El) (a : Option Addr) (c : Nat) (win cap : Int), e = .returned (.agg #[.slice a es.length c, .int .i64 win, .int .i64 cap]) ∧
      Mid w w' es.length es a c win cap ∧ 1 ≤ es.length ∧ es.length ≤ 4 ∧ 1 ≤ win ∧ win ≤ 16 ∧ 100 ≤ cap ∧ cap ≤ 1000 := by
  have HR : Hid (∀ W, Fr [] w W → Reads W 1 (.slice ap zs.length cp) zs.length (zs.map (Value.int .i64))) := Lib.hid (fun W hW => hR.fr0 hW)
  clear hR
  obtain ⟨i0, hi0, hz0, hz1, hz2⟩ := info_parts info_elem
  go_enter Try.func44, Try.ntmps44
  go_upto_if 11 with (fail)
  obtain ⟨wa, hwa⟩ : ∃ W, W = w.alloc (.cells #[.slice none 0 0, .int .i64 0, .int .i64 0] 67) := ⟨_, rfl⟩
  have BA : Hid (Blk wa w.heap.size [.slice none 0 0, .int .i64 0, .int .i64 0] 67) := Lib.hid (by rw [hwa]; exact Blk.new w [.slice none 0 0, .int .i64 0, .int .i64 0] _)
  have FA : Hid (Fr [] w wa) := Lib.hid (by rw [hwa]; exact (Fr.refl _ _).alloc _)
  rw [← hwa]
  clear hwa
  go_cut [3] (fun v3 wc => ∃ x : Nat, x < 16777216 ∧ v3 = .int .i64 x ∧ wc = wa)
  case first =>
    by_cases h0 : 0 < zs.length
    · obtain ⟨z, hz⟩ : ∃ z, zs[0]? = some z := ⟨zs[0], by simp [h0]⟩
      obtain ⟨b, o, rfl, hc⟩ : ∃ b o, ap = some ⟨b, o, none⟩ ∧ wa.cell? ⟨b, o, none⟩ = some (.int .i64 z) := by
        obtain ⟨hl2, a, c, h1, _, h | ⟨b, o, h2, h⟩⟩ := HR.out wa FA.out
        · rw [h] at hl2; simp at hl2; omega
        · simp at h1
          exact ⟨b, o, by rw [h1.1, h2], h 0 _ (by rw [List.getElem?_map, hz]; rfl)⟩
      have hb : bits .and .i64 z 16777215 = z % 16777216 := and24 z
      clear hz
      go_wp2_with fail
      go_meet
      case rel => exact ⟨(z % 16777216).toNat, by omega, by rw [Int.toNat_of_nonneg (by omega)], rfl⟩
    · go_wp2_with fail
      go_meet
      case rel => exact ⟨0, by omega, rfl, rfl⟩
  case rest =>
    obtain ⟨x, hx, rfl, rfl⟩ := hcut
    have hn3 : bits .and .i64 (x : Int) 3 = ((x % 4 : Nat) : Int) := and_nat x 3 2 (by decide) (by decide)
    have hn15 : bits .and .i64 ((x : Int) / 4) 15 = ((x / 4 % 16 : Nat) : Int) := and_nat (x / 4) 15 4 (by decide) (by decide)
    obtain ⟨n, hn⟩ : ∃ n, n = x % 4 + 1 := ⟨_, rfl⟩
    obtain ⟨win, hwin⟩ : ∃ win, win = x / 4 % 16 + 1 := ⟨_, rfl⟩
    have hb1 := BA.out.cell_at (o := 1) rfl
    have hfz := BA.out.thawed
    go_upto_region 6 with (fail)
    clear hb1 hfz
    have e1 : (x : Int) / 4 % 16 + 1 = (win : Int) := by omega
    have e2 : (x : Int) % 4 + 1 = (n : Int) := by omega
    rw [e1, e2]
    clear e1 e2 hn3 hn15
    obtain ⟨wb, hwb⟩ : ∃ W, W = wc.setCell ⟨w.heap.size, 1, none⟩ (.int .i64 win) := ⟨_, rfl⟩
    have BB : Hid (Blk wb w.heap.size [.slice none 0 0, .int .i64 win, .int .i64 0] 67) := Lib.hid (by rw [hwb]; exact BA.out.set 1 _)
    have FB : Hid (Fr [] w wb) := Lib.hid (by rw [hwb]; exact FA.out.set (.inr (Nat.le_refl _)) _)
    rw [← hwb]
    clear hwb BA FA
    go_cut [] (fun wd => ∃ cap : Int, 100 ≤ cap ∧ cap ≤ 1000 ∧ Blk wd w.heap.size [.slice none 0 0, .int .i64 win, .int .i64 cap] 67 ∧ Fr [] w wd)
    case first =>
      have hk : bits .and .i64 ((x : Int) / 64) 3 = ((x / 64 % 4 : Nat) : Int) := and_nat (x / 64) 3 2 (by decide) (by decide)
      obtain ⟨j, hj⟩ : ∃ j, x / 64 % 4 = j := ⟨_, rfl⟩
      have hj4 : j < 4 := by omega
      rw [hj] at hk
      clear hj hn hwin
      have hb2 := fun ob => (BB.out.alloc ob).cell_at (o := 2) rfl
      have hfz := fun ob => (BB.out.alloc ob).thawed
      match j, hj4 with
      | 0, _ =>
        go_wp2_with fail
        go_meet
        case rel => exact ⟨100, by omega, by omega, (BB.out.alloc _).set 2 _, (FB.out.alloc _).set (.inr (Nat.le_refl _)) _⟩
      | 1, _ =>
        go_wp2_with fail
        go_meet
        case rel => exact ⟨100, by omega, by omega, (BB.out.alloc _).set 2 _, (FB.out.alloc _).set (.inr (Nat.le_refl _)) _⟩
      | 2, _ =>
        go_wp2_with fail
        go_meet
        case rel => exact ⟨200, by omega, by omega, (BB.out.alloc _).set 2 _, (FB.out.alloc _).set (.inr (Nat.le_refl _)) _⟩
      | 3, _ =>
        go_wp2_with fail
        go_meet
        case rel => exact ⟨1000, by omega, by omega, (BB.out.alloc _).set 2 _, (FB.out.alloc _).set (.inr (Nat.le_refl _)) _⟩
    case rest =>
      obtain ⟨cap, hc1, hc2, hT, hF⟩ := hcut
      clear BB FB
      have hn4 : 1 ≤ n ∧ n ≤ 4 := by omega
      have hw16 : 1 ≤ win ∧ win ≤ 16 := by omega
      have M0 : Hid (Mid w wc n [] none 0 win cap) := Lib.hid ⟨hT, View.nil _ _ _ _, hF, by simp, fun i e he => by cases he⟩
      have HX := Lib.hid (And.intro hc1 (And.intro hc2 hw16))
      clear hT hF hx hn hwin hc1 hc2 hw16
      go_wp2_with fail
      go_loopw [5, 6, 7, 8] (fun v5 v6 v7 v8 wr => ∃ (es : List El) (a : Option Addr) (c : Nat), v5 = .int .i64 es.length ∧ Mid w wr n es a c win cap) (fun v5 _ _ _ _ => n - (intOf v5).toNat)
      case atStart => exact ⟨[], none, 0, rfl, M0.out⟩
      case round =>
        obtain ⟨es, a, c, rfl, hM⟩ := hrel
        have HM := Lib.hid hM
        clear hM M0
        by_cases hk : es.length < n
        · have hk4 : es.length < 4 := by omega
          go_upto_if 42 with (fail)
          go_cut [6] (fun v6 wc => ∃ y : Nat, y < 16777216 ∧ v6 = .int .i64 y ∧ wc = wr)
          case first =>
            by_cases h1 : es.length + 1 < zs.length
            · obtain ⟨z, hz⟩ : ∃ z, zs[es.length + 1]? = some z := ⟨zs[es.length + 1], by simp [h1]⟩
              obtain ⟨b, o, rfl, hc⟩ : ∃ b o, ap = some ⟨b, o, none⟩ ∧ wr.cell? ⟨b, o + (es.length + 1), none⟩ = some (.int .i64 z) := by
                obtain ⟨hl2, a', c', h1', _, h | ⟨b, o, h2, h⟩⟩ := HR.out wr HM.out.fr
                · rw [h] at hl2; simp at hl2; omega
                · simp at h1'
                  exact ⟨b, o, by rw [h1'.1, h2], h _ _ (by rw [List.getElem?_map, hz]; rfl)⟩
              have hb : bits .and .i64 z 16777215 = z % 16777216 := and24 z
              clear hz
              go_wp2_with fail
              go_meet
              case rel => exact ⟨(z % 16777216).toNat, by omega, by rw [Int.toNat_of_nonneg (by omega)], rfl⟩
            · go_wp2_with fail
              go_meet
              case rel => exact ⟨es.length * 37, by omega, rfl, rfl⟩
          case rest =>
            obtain ⟨y, hy, rfl, rfl⟩ := hcut
            obtain ⟨wr, rfl⟩ : ∃ W, W = wc := ⟨_, rfl⟩
            go_upto_region 13 with (fail)
            go_cut [7] (fun v7 wd => ∃ (eb : Nat) (ta : Option Addr) (tn tc : Nat), v7 = .pointer (some ⟨eb, 0, none⟩) ∧ New wr wd eb es.length ta tn tc false 1 1)
            case first =>
              have hk4i : (es.length : Int) < 4 := by omega
              have F0 : Hid (Fr [] wr wr.drew) := Lib.hid (Fr.refl _ _).drew
              clear HM
              refine wp_region_tree_np (fun _ => True) (.on 1 (.on 4 (.two 0 (.up (.on 2 (.on 3 (.two 5 (.on 6 (.one 7 (.one 8 .nil))) 7 (.one 5 (.on 6 (.one 8 .nil))))))) 7 (.one 0 (.up (.on 2 (.on 3 (.one 5 (.on 6 (.one 8 .nil)))))))))) (by kernel_rfl) (by kernel_rfl) trivial ?_
              obtain ⟨w0, hw0⟩ : ∃ W, W = wr.drew := ⟨_, rfl⟩
              rw [← hw0] at F0 ⊢
              clear hw0
              iterate 2 (first | (refine ht_on (o := ?_) (v := ?_) ?_ ?_ (fun w hSw => ?_) ?_; rotate_left 2; (focus ((simp only [List.getElem?_toArray, List.getElem?_cons_succ, List.getElem?_cons_zero]); (try rfl); done)); (focus (rfl)); (focus (((try obtain _ := hSw); (try dsimp only at hSw); go_simp; (try with_reducible rfl)); done)); simp only [Act.put, List.setIfInBounds_toArray, List.set_cons_zero, List.set_cons_succ]) | (refine ht_off_light (o := ?_) ?_ ?_ ?_; rotate_left 1; (focus ((simp only [List.getElem?_toArray, List.getElem?_cons_succ, List.getElem?_cons_zero]); (try rfl); done)); (focus (rfl)); simp only [Act.put, List.setIfInBounds_toArray, List.set_cons_zero, List.set_cons_succ]))
              refine ht_two (o := ?_) (o' := ?_) ?_ ?_ ?_ ?_ (fun K hK => ?_) (fun K hK => ?_)
              rotate_left 2
              (focus ((simp only [List.getElem?_toArray, List.getElem?_cons_succ, List.getElem?_cons_zero]); (try rfl); done))
              focus (rfl)
              (focus ((simp only [List.getElem?_toArray, List.getElem?_cons_succ, List.getElem?_cons_zero]); (try rfl); done))
              focus (rfl)
              · go_simp
                refine (vars_any _).mono ?_
                rintro e w1 ⟨rfl, hw⟩
                have hf : Fr [] w0 w1 := by rw [hw]; exact (Fr.refl _ _).alloc _
                have V1 : Hid (w1.cell? ⟨w0.heap.size, es.length, none⟩ = some (.string (varOf es.length))) := Lib.hid (by rw [hw]; exact (Blk.new w0 [.string ⟨#[97]⟩, .string ⟨#[98]⟩, .string ⟨#[99]⟩, .string ⟨#[101]⟩] 9).cell_at (vars_get hk4))
                clear hw
                obtain ⟨gv, hgv⟩ : ∃ g, g = w0.heap.size := ⟨_, rfl⟩
                rw [← hgv] at V1 ⊢
                clear hgv
                have F1 : Hid (Fr [] wr w1) := Lib.hid (F0.out.trans0 hf)
                clear hf
                refine hK.out _ _ trivial (fun _ => ?_)
                try simp only [Act.put, List.setIfInBounds_toArray, List.set_cons_zero, List.set_cons_succ]
                refine ht_up (fun W => W.cell? ⟨gv, es.length, none⟩ = some (.string (varOf es.length))) (fun _ _ => trivial) V1.out ?_
                iterate 2 (first | (refine ht_on (o := ?_) (v := ?_) ?_ ?_ (fun w hSw => ?_) ?_; rotate_left 2; (focus ((simp only [List.getElem?_toArray, List.getElem?_cons_succ, List.getElem?_cons_zero]); (try rfl); done)); (focus (rfl)); (focus (((try obtain _ := hSw); (try dsimp only at hSw); go_simp; (try with_reducible rfl)); done)); simp only [Act.put, List.setIfInBounds_toArray, List.set_cons_zero, List.set_cons_succ]) | (refine ht_off_light (o := ?_) ?_ ?_ ?_; rotate_left 1; (focus ((simp only [List.getElem?_toArray, List.getElem?_cons_succ, List.getElem?_cons_zero]); (try rfl); done)); (focus (rfl)); simp only [Act.put, List.setIfInBounds_toArray, List.set_cons_zero, List.set_cons_succ]))
                refine ht_two (o := ?_) (o' := ?_) ?_ ?_ ?_ ?_ (fun K hK => ?_) (fun K hK => ?_)
                rotate_left 2
                (focus ((simp only [List.getElem?_toArray, List.getElem?_cons_succ, List.getElem?_cons_zero]); (try rfl); done))
                focus (rfl)
                (focus ((simp only [List.getElem?_toArray, List.getElem?_cons_succ, List.getElem?_cons_zero]); (try rfl); done))
                focus (rfl)
                · go_simp
                  refine (types_any y _).mono ?_
                  rintro e w2 ⟨at_, ct, rfl, hv, hf⟩
                  have T2 : Hid (View w2 wr.heap.size 9 1 (.slice at_ (typesOf y).length ct) (typesOf y).length ((typesOf y).map Value.string)) := Lib.hid (View_low hv F1.out.size)
                  clear hv
                  have V2 : Hid (w2.cell? ⟨gv, es.length, none⟩ = some (.string (varOf es.length))) := Lib.hid (hf.cell V1.out (by simp))
                  have F2 : Hid (Fr [] wr w2) := Lib.hid (F1.out.trans0 hf)
                  clear hf
                  refine hK.out _ _ V2.out (fun _ => ?_)
                  try simp only [Act.put, List.setIfInBounds_toArray, List.set_cons_zero, List.set_cons_succ]
                  iterate 1 (first | (refine ht_on (o := ?_) (v := ?_) ?_ ?_ (fun w hSw => ?_) ?_; rotate_left 2; (focus ((simp only [List.getElem?_toArray, List.getElem?_cons_succ, List.getElem?_cons_zero]); (try rfl); done)); (focus (rfl)); (focus (((try obtain _ := hSw); (try dsimp only at hSw); go_simp; (try with_reducible rfl)); done)); simp only [Act.put, List.setIfInBounds_toArray, List.set_cons_zero, List.set_cons_succ]) | (refine ht_off_light (o := ?_) ?_ ?_ ?_; rotate_left 1; (focus ((simp only [List.getElem?_toArray, List.getElem?_cons_succ, List.getElem?_cons_zero]); (try rfl); done)); (focus (rfl)); simp only [Act.put, List.setIfInBounds_toArray, List.set_cons_zero, List.set_cons_succ]))
                  refine ht_one (o := ?_) ?_ ?_ (fun K hK => ?_)
                  rotate_left 1
                  (focus ((simp only [List.getElem?_toArray, List.getElem?_cons_succ, List.getElem?_cons_zero]); (try rfl); done))
                  focus (rfl)
                  go_simp
                  obtain ⟨w3, hw⟩ : ∃ W, W = w2.alloc (.cells #[.string ⟨#[]⟩, .slice none 0 0, .bool false, .int .i64 0, .int .i64 0, .slice none 0 0] 83) := ⟨_, rfl⟩
                  rw [← hw]
                  obtain ⟨eb, heb⟩ : ∃ g, g = w2.heap.size := ⟨_, rfl⟩
                  rw [← heb]
                  have hf : Fr [] w2 w3 := by rw [hw]; exact (Fr.refl _ _).alloc _
                  have E3 : Hid (Blk w3 eb [.string ⟨#[]⟩, .slice none 0 0, .bool false, .int .i64 0, .int .i64 0, .slice none 0 0] 83) := Lib.hid (by rw [hw, heb]; exact Blk.new w2 [.string ⟨#[]⟩, .slice none 0 0, .bool false, .int .i64 0, .int .i64 0, .slice none 0 0] _)
                  have HEB : Hid (wr.heap.size ≤ eb) := Lib.hid (by rw [heb]; exact F2.out.size)
                  have HNE : Hid (∀ g, (Value.slice at_ (typesOf y).length ct).ownBlock = some g → g ≠ eb) := Lib.hid (fun g hg => by have h1 := (T2.out.lt hg).2; omega)
                  have HVE : Hid (gv ≠ eb) := Lib.hid (by have h1 : gv < w2.heap.size := World.block_lt_of_cell? _ _ V2.out; omega)
                  clear hw heb
                  have V3 : Hid (w3.cell? ⟨gv, es.length, none⟩ = some (.string (varOf es.length))) := Lib.hid (hf.cell V2.out (by simp))
                  have T3 : Hid (View w3 wr.heap.size 9 1 (.slice at_ (typesOf y).length ct) (typesOf y).length ((typesOf y).map Value.string)) := Lib.hid (T2.out.fr0 hf)
                  have F3 : Hid (Fr [] wr w3) := Lib.hid (F2.out.trans0 hf)
                  clear hf
                  refine hK.out _ _ V3.out (fun _ => ?_)
                  try simp only [Act.put, List.setIfInBounds_toArray, List.set_cons_zero, List.set_cons_succ]
                  refine ht_one (o := ?_) ?_ ?_ (fun K hK => ?_)
                  rotate_left 1
                  (focus ((simp only [List.getElem?_toArray, List.getElem?_cons_succ, List.getElem?_cons_zero]); (try rfl); done))
                  focus (rfl)
                  have c0 := E3.out.cell_at (o := 0) rfl
                  have c1 := E3.out.cell_at (o := 1) rfl
                  have c2 := E3.out.cell_at (o := 2) rfl
                  have c3 := E3.out.cell_at (o := 3) rfl
                  have c4 := E3.out.cell_at (o := 4) rfl
                  have c5 := E3.out.cell_at (o := 5) rfl
                  have hfz := E3.out.thawed
                  go_simp
                  refine hK.out _ _ ((six_sets E3.out _ _ _ _ _ _).2.cell V3.out (by have := HVE.out; simpa using this)) (fun _ => ?_)
                  try simp only [Act.put, List.setIfInBounds_toArray, List.set_cons_zero, List.set_cons_succ]
                  refine ht_done_np ?_
                  go_wp2_with fail
                  go_meet
                  case rel =>
                    have hs := six_sets E3.out (.string (varOf es.length)) (.slice at_ (typesOf y).length ct) (.bool false) (.int .i64 1) (.int .i64 1) (.slice none 0 0)
                    exact ⟨eb, at_, (typesOf y).length, ct, rfl, F3.out.trans hs.2 (fun b hb => .inr (by simp at hb; rw [hb]; exact HEB.out)), HEB.out, hs.1, ⟨typesOf y, rfl, (typesOf_len y).1, (typesOf_len y).2, T3.out.fr hs.2 (fun g hg => by simpa using HNE.out g hg)⟩, HNE.out⟩
                · go_simp
                  obtain ⟨w2, hw⟩ : ∃ W, W = w1.alloc (.cells #[.string ⟨#[]⟩, .slice none 0 0, .bool false, .int .i64 0, .int .i64 0, .slice none 0 0] 83) := ⟨_, rfl⟩
                  rw [← hw]
                  obtain ⟨eb, heb⟩ : ∃ g, g = w1.heap.size := ⟨_, rfl⟩
                  rw [← heb]
                  have hf : Fr [] w1 w2 := by rw [hw]; exact (Fr.refl _ _).alloc _
                  have E2 : Hid (Blk w2 eb [.string ⟨#[]⟩, .slice none 0 0, .bool false, .int .i64 0, .int .i64 0, .slice none 0 0] 83) := Lib.hid (by rw [hw, heb]; exact Blk.new w1 [.string ⟨#[]⟩, .slice none 0 0, .bool false, .int .i64 0, .int .i64 0, .slice none 0 0] _)
                  have HEB : Hid (wr.heap.size ≤ eb) := Lib.hid (by rw [heb]; exact F1.out.size)
                  have HVE : Hid (gv ≠ eb) := Lib.hid (by have h1 : gv < w1.heap.size := World.block_lt_of_cell? _ _ V1.out; omega)
                  clear hw heb
                  have V2 : Hid (w2.cell? ⟨gv, es.length, none⟩ = some (.string (varOf es.length))) := Lib.hid (hf.cell V1.out (by simp))
                  have F2 : Hid (Fr [] wr w2) := Lib.hid (F1.out.trans0 hf)
                  clear hf
                  refine hK.out _ _ V2.out (fun _ => ?_)
                  try simp only [Act.put, List.setIfInBounds_toArray, List.set_cons_zero, List.set_cons_succ]
                  refine ht_one (o := ?_) ?_ ?_ (fun K hK => ?_)
                  rotate_left 1
                  (focus ((simp only [List.getElem?_toArray, List.getElem?_cons_succ, List.getElem?_cons_zero]); (try rfl); done))
                  focus (rfl)
                  go_simp
                  refine (types_any y _).mono ?_
                  rintro e w3 ⟨at_, ct, rfl, hv, hf⟩
                  have T3 : Hid (View w3 wr.heap.size 9 1 (.slice at_ (typesOf y).length ct) (typesOf y).length ((typesOf y).map Value.string)) := Lib.hid (View_low hv F2.out.size)
                  have HNE : Hid (∀ g, (Value.slice at_ (typesOf y).length ct).ownBlock = some g → g ≠ eb) := Lib.hid (fun g hg => by have h1 := (hv.lt hg).1; have h2 := E2.out.lt; omega)
                  clear hv
                  have V3 : Hid (w3.cell? ⟨gv, es.length, none⟩ = some (.string (varOf es.length))) := Lib.hid (hf.cell V2.out (by simp))
                  have E3 : Hid (Blk w3 eb [.string ⟨#[]⟩, .slice none 0 0, .bool false, .int .i64 0, .int .i64 0, .slice none 0 0] 83) := Lib.hid (E2.out.fr hf (by simp))
                  have F3 : Hid (Fr [] wr w3) := Lib.hid (F2.out.trans0 hf)
                  clear hf
                  refine hK.out _ _ V3.out (fun _ => ?_)
                  try simp only [Act.put, List.setIfInBounds_toArray, List.set_cons_zero, List.set_cons_succ]
                  iterate 1 (first | (refine ht_on (o := ?_) (v := ?_) ?_ ?_ (fun w hSw => ?_) ?_; rotate_left 2; (focus ((simp only [List.getElem?_toArray, List.getElem?_cons_succ, List.getElem?_cons_zero]); (try rfl); done)); (focus (rfl)); (focus (((try obtain _ := hSw); (try dsimp only at hSw); go_simp; (try with_reducible rfl)); done)); simp only [Act.put, List.setIfInBounds_toArray, List.set_cons_zero, List.set_cons_succ]) | (refine ht_off_light (o := ?_) ?_ ?_ ?_; rotate_left 1; (focus ((simp only [List.getElem?_toArray, List.getElem?_cons_succ, List.getElem?_cons_zero]); (try rfl); done)); (focus (rfl)); simp only [Act.put, List.setIfInBounds_toArray, List.set_cons_zero, List.set_cons_succ]))
                  refine ht_one (o := ?_) ?_ ?_ (fun K hK => ?_)
                  rotate_left 1
                  (focus ((simp only [List.getElem?_toArray, List.getElem?_cons_succ, List.getElem?_cons_zero]); (try rfl); done))
                  focus (rfl)
                  have c0 := E3.out.cell_at (o := 0) rfl
                  have c1 := E3.out.cell_at (o := 1) rfl
                  have c2 := E3.out.cell_at (o := 2) rfl
                  have c3 := E3.out.cell_at (o := 3) rfl
                  have c4 := E3.out.cell_at (o := 4) rfl
                  have c5 := E3.out.cell_at (o := 5) rfl
                  have hfz := E3.out.thawed
                  go_simp
                  refine hK.out _ _ ((six_sets E3.out _ _ _ _ _ _).2.cell V3.out (by have := HVE.out; simpa using this)) (fun _ => ?_)
                  try simp only [Act.put, List.setIfInBounds_toArray, List.set_cons_zero, List.set_cons_succ]
                  refine ht_done_np ?_
                  go_wp2_with fail
                  go_meet
                  case rel =>
                    have hs := six_sets E3.out (.string (varOf es.length)) (.slice at_ (typesOf y).length ct) (.bool false) (.int .i64 1) (.int .i64 1) (.slice none 0 0)
                    exact ⟨eb, at_, (typesOf y).length, ct, rfl, F3.out.trans hs.2 (fun b hb => .inr (by simp at hb; rw [hb]; exact HEB.out)), HEB.out, hs.1, ⟨typesOf y, rfl, (typesOf_len y).1, (typesOf_len y).2, T3.out.fr hs.2 (fun g hg => by simpa using HNE.out g hg)⟩, HNE.out⟩
              · go_simp
                obtain ⟨w1, hw⟩ : ∃ W, W = w0.alloc (.cells #[.string ⟨#[]⟩, .slice none 0 0, .bool false, .int .i64 0, .int .i64 0, .slice none 0 0] 83) := ⟨_, rfl⟩
                rw [← hw]
                obtain ⟨eb, heb⟩ : ∃ g, g = w0.heap.size := ⟨_, rfl⟩
                rw [← heb]
                have hf : Fr [] w0 w1 := by rw [hw]; exact (Fr.refl _ _).alloc _
                have E1 : Hid (Blk w1 eb [.string ⟨#[]⟩, .slice none 0 0, .bool false, .int .i64 0, .int .i64 0, .slice none 0 0] 83) := Lib.hid (by rw [hw, heb]; exact Blk.new w0 [.string ⟨#[]⟩, .slice none 0 0, .bool false, .int .i64 0, .int .i64 0, .slice none 0 0] _)
                have HEB : Hid (wr.heap.size ≤ eb) := Lib.hid (by rw [heb]; exact F0.out.size)
                clear hw heb
                have F1 : Hid (Fr [] wr w1) := Lib.hid (F0.out.trans0 hf)
                clear hf
                refine hK.out _ _ trivial (fun _ => ?_)
                try simp only [Act.put, List.setIfInBounds_toArray, List.set_cons_zero, List.set_cons_succ]
                refine ht_one (o := ?_) ?_ ?_ (fun K hK => ?_)
                rotate_left 1
                (focus ((simp only [List.getElem?_toArray, List.getElem?_cons_succ, List.getElem?_cons_zero]); (try rfl); done))
                focus (rfl)
                go_simp
                refine (vars_any _).mono ?_
                rintro e w2 ⟨rfl, hw⟩
                have hf : Fr [] w1 w2 := by rw [hw]; exact (Fr.refl _ _).alloc _
                have V2 : Hid (w2.cell? ⟨w1.heap.size, es.length, none⟩ = some (.string (varOf es.length))) := Lib.hid (by rw [hw]; exact (Blk.new w1 [.string ⟨#[97]⟩, .string ⟨#[98]⟩, .string ⟨#[99]⟩, .string ⟨#[101]⟩] 9).cell_at (vars_get hk4))
                clear hw
                obtain ⟨gv, hgv⟩ : ∃ g, g = w1.heap.size := ⟨_, rfl⟩
                rw [← hgv] at V2 ⊢
                have HVE : Hid (gv ≠ eb) := Lib.hid (by have := E1.out.lt; omega)
                clear hgv
                have E2 : Hid (Blk w2 eb [.string ⟨#[]⟩, .slice none 0 0, .bool false, .int .i64 0, .int .i64 0, .slice none 0 0] 83) := Lib.hid (E1.out.fr hf (by simp))
                have F2 : Hid (Fr [] wr w2) := Lib.hid (F1.out.trans0 hf)
                clear hf
                refine hK.out _ _ trivial (fun _ => ?_)
                try simp only [Act.put, List.setIfInBounds_toArray, List.set_cons_zero, List.set_cons_succ]
                refine ht_up (fun W => W.cell? ⟨gv, es.length, none⟩ = some (.string (varOf es.length))) (fun _ _ => trivial) V2.out ?_
                iterate 2 (first | (refine ht_on (o := ?_) (v := ?_) ?_ ?_ (fun w hSw => ?_) ?_; rotate_left 2; (focus ((simp only [List.getElem?_toArray, List.getElem?_cons_succ, List.getElem?_cons_zero]); (try rfl); done)); (focus (rfl)); (focus (((try obtain _ := hSw); (try dsimp only at hSw); go_simp; (try with_reducible rfl)); done)); simp only [Act.put, List.setIfInBounds_toArray, List.set_cons_zero, List.set_cons_succ]) | (refine ht_off_light (o := ?_) ?_ ?_ ?_; rotate_left 1; (focus ((simp only [List.getElem?_toArray, List.getElem?_cons_succ, List.getElem?_cons_zero]); (try rfl); done)); (focus (rfl)); simp only [Act.put, List.setIfInBounds_toArray, List.set_cons_zero, List.set_cons_succ]))
                refine ht_one (o := ?_) ?_ ?_ (fun K hK => ?_)
                rotate_left 1
                (focus ((simp only [List.getElem?_toArray, List.getElem?_cons_succ, List.getElem?_cons_zero]); (try rfl); done))
                focus (rfl)
                go_simp
                refine (types_any y _).mono ?_
                rintro e w3 ⟨at_, ct, rfl, hv, hf⟩
                have T3 : Hid (View w3 wr.heap.size 9 1 (.slice at_ (typesOf y).length ct) (typesOf y).length ((typesOf y).map Value.string)) := Lib.hid (View_low hv F2.out.size)
                have HNE : Hid (∀ g, (Value.slice at_ (typesOf y).length ct).ownBlock = some g → g ≠ eb) := Lib.hid (fun g hg => by have h1 := (hv.lt hg).1; have h2 := E2.out.lt; omega)
                clear hv
                have V3 : Hid (w3.cell? ⟨gv, es.length, none⟩ = some (.string (varOf es.length))) := Lib.hid (hf.cell V2.out (by simp))
                have E3 : Hid (Blk w3 eb [.string ⟨#[]⟩, .slice none 0 0, .bool false, .int .i64 0, .int .i64 0, .slice none 0 0] 83) := Lib.hid (E2.out.fr hf (by simp))
                have F3 : Hid (Fr [] wr w3) := Lib.hid (F2.out.trans0 hf)
                clear hf
                refine hK.out _ _ V3.out (fun _ => ?_)
                try simp only [Act.put, List.setIfInBounds_toArray, List.set_cons_zero, List.set_cons_succ]
                iterate 1 (first | (refine ht_on (o := ?_) (v := ?_) ?_ ?_ (fun w hSw => ?_) ?_; rotate_left 2; (focus ((simp only [List.getElem?_toArray, List.getElem?_cons_succ, List.getElem?_cons_zero]); (try rfl); done)); (focus (rfl)); (focus (((try obtain _ := hSw); (try dsimp only at hSw); go_simp; (try with_reducible rfl)); done)); simp only [Act.put, List.setIfInBounds_toArray, List.set_cons_zero, List.set_cons_succ]) | (refine ht_off_light (o := ?_) ?_ ?_ ?_; rotate_left 1; (focus ((simp only [List.getElem?_toArray, List.getElem?_cons_succ, List.getElem?_cons_zero]); (try rfl); done)); (focus (rfl)); simp only [Act.put, List.setIfInBounds_toArray, List.set_cons_zero, List.set_cons_succ]))
                refine ht_one (o := ?_) ?_ ?_ (fun K hK => ?_)
                rotate_left 1
                (focus ((simp only [List.getElem?_toArray, List.getElem?_cons_succ, List.getElem?_cons_zero]); (try rfl); done))
                focus (rfl)
                have c0 := E3.out.cell_at (o := 0) rfl
                have c1 := E3.out.cell_at (o := 1) rfl
                have c2 := E3.out.cell_at (o := 2) rfl
                have c3 := E3.out.cell_at (o := 3) rfl
                have c4 := E3.out.cell_at (o := 4) rfl
                have c5 := E3.out.cell_at (o := 5) rfl
                have hfz := E3.out.thawed
                go_simp
                refine hK.out _ _ ((six_sets E3.out _ _ _ _ _ _).2.cell V3.out (by have := HVE.out; simpa using this)) (fun _ => ?_)
                try simp only [Act.put, List.setIfInBounds_toArray, List.set_cons_zero, List.set_cons_succ]
                refine ht_done_np ?_
                go_wp2_with fail
                go_meet
                case rel =>
                  have hs := six_sets E3.out (.string (varOf es.length)) (.slice at_ (typesOf y).length ct) (.bool false) (.int .i64 1) (.int .i64 1) (.slice none 0 0)
                  exact ⟨eb, at_, (typesOf y).length, ct, rfl, F3.out.trans hs.2 (fun b hb => .inr (by simp at hb; rw [hb]; exact HEB.out)), HEB.out, hs.1, ⟨typesOf y, rfl, (typesOf_len y).1, (typesOf_len y).2, T3.out.fr hs.2 (fun g hg => by simpa using HNE.out g hg)⟩, HNE.out⟩
            case rest =>
              obtain ⟨eb, ta, tn, tc, rfl, hN⟩ := hcut
              have HN := Lib.hid hN
              clear hN
              obtain ⟨wd, rfl⟩ : ∃ W, W = wc := ⟨_, rfl⟩
              go_upto_region 14 with (fail)
              go_cut [] (fun wx => ∃ b : Bool, (b = true → 0 < es.length ∧ es.length + 1 < n) ∧ New wr wx eb es.length ta tn tc b 1 1)
              case first =>
                have c2 := HN.out.blk.cell_at (o := 2) rfl
                have hfz := HN.out.blk.thawed
                clear HM
                by_cases h1 : 0 < es.length
                · by_cases h2 : (es.length : Int) < (n : Int) - 1
                  · obtain ⟨b3, hb3⟩ : ∃ b, (bits .and .i64 ((y : Int) / 16) 3 == 0) = b := ⟨_, rfl⟩
                    cases b3 with
                    | true =>
                      go_wp2_with fail
                      go_meet
                      case rel => exact ⟨true, fun _ => ⟨h1, by omega⟩, HN.out.set (W' := wd.setCell ⟨eb, 2, none⟩ (.bool true)) ((Fr.refl _ _).set (.inl (by simp)) _) (HN.out.blk.set 2 _)⟩
                    | false =>
                      go_wp2_with fail
                      go_meet
                      case rel => exact ⟨false, fun h => absurd h (by simp), HN.out.set (W' := wd.setCell ⟨eb, 2, none⟩ (.bool false)) ((Fr.refl _ _).set (.inl (by simp)) _) (HN.out.blk.set 2 _)⟩
                  · go_wp2_with fail
                    go_meet
                    case rel => exact ⟨false, fun h => absurd h (by simp), HN.out.set (W' := wd.setCell ⟨eb, 2, none⟩ (.bool false)) ((Fr.refl _ _).set (.inl (by simp)) _) (HN.out.blk.set 2 _)⟩
                · go_wp2_with fail
                  go_meet
                  case rel => exact ⟨false, fun h => absurd h (by simp), HN.out.set (W' := wd.setCell ⟨eb, 2, none⟩ (.bool false)) ((Fr.refl _ _).set (.inl (by simp)) _) (HN.out.blk.set 2 _)⟩
              case rest =>
                obtain ⟨neg, hneg, hN⟩ := hcut
                clear HN
                have HNEG := Lib.hid hneg
                have HN := Lib.hid hN
                clear hneg hN
                obtain ⟨we, rfl⟩ : ∃ W, W = wc := ⟨_, rfl⟩
                go_upto_region 15 with (fail)
                go_cut [79] (fun v79 wx => ∃ t : Bool, v79 = .bool t ∧ wx = we)
                case first =>
                  have c2 := HN.out.blk.cell_at (o := 2) rfl
                  have hfz := HN.out.blk.thawed
                  clear HM
                  cases neg with
                  | true =>
                    go_wp2_with fail
                    go_meet
                    case rel => exact ⟨_, rfl, rfl⟩
                  | false =>
                    go_wp2_with fail
                    go_meet
                    case rel => exact ⟨_, rfl, rfl⟩
                case rest =>
                  obtain ⟨tt, rfl, rfl⟩ := hcut
                  obtain ⟨wf, rfl⟩ : ∃ W, W = wc := ⟨_, rfl⟩
                  go_upto_if 79 with (fail)
                  go_cut [] (fun wz => ∃ mn mx : Int, 1 ≤ mn ∧ mn ≤ mx ∧ mn ≤ 2 ∧ mx ≤ 3 ∧ New wr wz eb es.length ta tn tc neg mn mx)
                  case first =>
                    cases tt with
                    | false =>
                      go_wp2_with fail
                      go_meet
                      case rel => exact ⟨1, 1, by omega, by omega, by omega, by omega, HN.out⟩
                    | true =>
                      have c3 := HN.out.blk.cell_at (o := 3) rfl
                      have c4 := HN.out.blk.cell_at (o := 4) rfl
                      have hfz := HN.out.blk.thawed
                      have hb1 : bits .and .i64 ((y : Int) / 256) 1 = ((y / 256 % 2 : Nat) : Int) := and_nat (y / 256) 1 1 (by decide) (by decide)
                      have hb2 : bits .and .i64 ((y : Int) / 512) 1 = ((y / 512 % 2 : Nat) : Int) := and_nat (y / 512) 1 1 (by decide) (by decide)
                      clear HM
                      go_wp2_with fail
                      go_meet
                      case rel => exact ⟨(y : Int) / 256 % 2 + 1, (y : Int) / 256 % 2 + 1 + (y : Int) / 512 % 2, by omega, by omega, by omega, by omega, HN.out.set (((Fr.refl _ _).set (.inl (by simp)) _).set (.inl (by simp)) _) ((HN.out.blk.set 3 _).set 4 _)⟩
                  case rest =>
                    obtain ⟨mn, mx, hm1, hm2, hm3, hm4, hN⟩ := hcut
                    clear HN
                    have HMM := Lib.hid (And.intro hm1 (And.intro hm2 (And.intro hm3 hm4)))
                    have HN := Lib.hid hN
                    clear hN hm1 hm2 hm3 hm4
                    obtain ⟨wg, rfl⟩ : ∃ W, W = wc := ⟨_, rfl⟩
                    go_upto_region 19 with (fail)
                    go_cut [101] (fun v101 wx => ∃ t : Bool, v101 = .bool t ∧ wx = wg)
                    case first =>
                      have HM2 := Lib.hid (HM.out.fr0 HN.out.fr)
                      cases es with
                      | nil =>
                        clear HM HN HM2
                        go_wp2_with fail
                        go_meet
                        case rel => exact ⟨_, rfl, rfl⟩
                      | cons e es' =>
                        have q0 := HM2.out.top.cell_at (o := 0) rfl
                        obtain ⟨b, o, rfl⟩ := HM2.out.view.reads.rec_addr El.len (by omega) (i := 0) (x := e) rfl
                        have hc : wg.cell? ⟨b, o + 4, none⟩ = some (.int .i64 e.mx) := by
                          have := HM2.out.view.reads.rec El.len (i := 0) (a := e) rfl (k := 4) rfl
                          simpa using this
                        clear HM HN HM2
                        go_wp2_with fail
                        go_meet
                        case rel => exact ⟨_, rfl, rfl⟩
                    case rest =>
                      obtain ⟨t2, rfl, rfl⟩ := hcut
                      obtain ⟨wh, rfl⟩ : ∃ W, W = wc := ⟨_, rfl⟩
                      go_upto_if 101 with (fail)
                      go_cut [8] (fun v8 wx => ∃ s : ByteArray, v8 = .string s ∧ wx = wh)
                      case first =>
                        have c0 := HN.out.blk.cell_at (o := 0) rfl
                        clear HM
                        cases t2 with
                        | true =>
                          go_wp2_with fail
                          go_meet
                          case rel => exact ⟨_, rfl, rfl⟩
                        | false =>
                          go_wp2_with fail
                          go_meet
                          case rel => exact ⟨_, rfl, rfl⟩
                      case rest =>
                        obtain ⟨other, rfl, rfl⟩ := hcut
                        obtain ⟨wi, rfl⟩ : ∃ W, W = wc := ⟨_, rfl⟩
                        have c0 := HN.out.blk.cell_at (o := 0) rfl
                        go_wp2_with fail
                        have e1 : ((y : Int) / 1024) = ((y / 1024 : Nat) : Int) := by omega
                        rw [e1]
                        clear e1
                        refine (pred_any (y / 1024) (varOf es.length) other wi).mono ?_
                        rintro e w1 ⟨ns, pa, pc, rfl, h7, hv, hf⟩
                        have HN1 := Lib.hid (HN.out.fr0 hf)
                        have HV1 := Lib.hid hv
                        have H7 := Lib.hid h7
                        have HEBI := HN.out.blk.lt
                        clear c0 hv h7 HN hf
                        have c5 := HN1.out.blk.cell_at (o := 5) rfl
                        have hfz := HN1.out.blk.thawed
                        go_upto_region 22 with (fail)
                        clear c5 hfz
                        obtain ⟨w2, hw2⟩ : ∃ W, W = w1.setCell ⟨eb, 5, none⟩ (.slice pa ns.length pc) := ⟨_, rfl⟩
                        have hF2 : Fr [eb] w1 w2 := by rw [hw2]; exact (Fr.refl _ _).set (.inl (by simp)) _
                        have HB2 : Hid (Blk w2 eb [.string (varOf es.length), .slice ta tn tc, .bool neg, .int .i64 mn, .int .i64 mx, .slice pa ns.length pc] 83) := Lib.hid (by rw [hw2]; exact HN1.out.blk.set 5 _)
                        rw [← hw2]
                        clear hw2
                        have hEB := HN1.out.at_
                        have HFR : Hid (Fr [] wr w2) := Lib.hid (HN1.out.fr.trans hF2 (fun b hb => .inr (by simp at hb; omega)))
                        have HV2 : Hid (View w2 wi.heap.size 139 7 (.slice pa ns.length pc) ns.length (ns.flatMap Nd.cells)) := Lib.hid (HV1.out.fr hF2 (fun g hg => by have := (HV1.out.lt hg).1; simp; omega))
                        have HT2 : Hid (∃ ts : List ByteArray, ts.length = tn ∧ 1 ≤ tn ∧ tn ≤ 3 ∧ View w2 wr.heap.size 9 1 (.slice ta tn tc) tn (ts.map Value.string)) := Lib.hid (by
                          obtain ⟨ts, k1, k2, k3, k4⟩ := HN1.out.tys
                          exact ⟨ts, k1, k2, k3, k4.fr hF2 (fun g hg => by simpa using HN1.out.ne g hg)⟩)
                        have HM2 := Lib.hid (HM.out.fr0 HFR.out)
                        clear hF2 hEB
                        have HATB := Lib.hid HN1.out.at_
                        have q0 := HM2.out.top.cell_at (o := 0) rfl
                        have d0 := HB2.out.cell_at (o := 0) rfl
                        have d1 := HB2.out.cell_at (o := 1) rfl
                        have d2 := HB2.out.cell_at (o := 2) rfl
                        have d3 := HB2.out.cell_at (o := 3) rfl
                        have d4 := HB2.out.cell_at (o := 4) rfl
                        have d5 := HB2.out.cell_at (o := 5) rfl
                        have HOFF : Hid (Off (w.heap.size + 1) w2.heap.size (Value.slice a es.length c).ownBlock.toList ⟨varOf es.length, ta, tn, tc, neg, mn, mx, pa, ns.length, pc⟩) := Lib.hid (fun g hg => by
                          have k1 := HM.out.top.lt
                          have k2 : ∀ x, (Value.slice a es.length c).ownBlock = some x → x < wr.heap.size := fun x hx => (HM.out.view.lt hx).2
                          have k3 : wr.heap.size ≤ g ∧ g < w2.heap.size := by
                            rcases hg with hg | hg
                            · obtain ⟨ts, _, _, _, k4⟩ := HT2.out
                              exact k4.lt hg
                            · have h1 := HV2.out.lt hg
                              have h2 := HATB.out
                              exact ⟨by omega, h1.2⟩
                          exact ⟨by omega, k3.2, fun hm => by have := k2 g (Option.mem_toList.1 hm); omega⟩)
                        have HHELD : Hid (Held w2 ⟨varOf es.length, ta, tn, tc, neg, mn, mx, pa, ns.length, pc⟩) := Lib.hid (by
                          obtain ⟨ts, k1, k2, k3, k4⟩ := HT2.out
                          exact ⟨⟨ts, k1, k2, k3, k4.reads⟩, ns, rfl, H7.out, HV2.out.reads⟩)
                        clear HM HN1 HV1 HFR HT2 HV2 HEBI
                        go_wp2_with (first | (at_builtin; refine wpList_append_view _ rfl _ _ 65 rfl (w.heap.size + 1) 83 i0 (.agg #[.string ⟨#[]⟩, .slice none 0 0, .bool false, .int .i64 0, .int .i64 0, .slice none 0 0]) 6 88 Try.underlying65 hi0 hz0 hz1 hz2 rfl _ _ es.length _ rfl (HM2.out.view.fr0 ((Fr.refl _ _).alloc _)) _ 1 [.string (varOf es.length), .slice ta tn tc, .bool neg, .int .i64 mn, .int .i64 mx, .slice pa ns.length pc] rfl (reads_six _ _ _ _ _ _ _ _) (by simp [Value.oneCell']) (by unfold maxLen; omega) (by omega) (by have := HM2.out.top.lt; simp; omega) ?_; intro a' c' w3 hv' hg' hat'; have HV' := Lib.hid hv'; have HG' := Lib.hid hg'; have HAT' := Lib.hid hat'; have HT3 : Hid (Blk w3 w.heap.size [.slice a es.length c, .int .i64 win, .int .i64 cap] 67) := Lib.hid ((HM2.out.top.alloc _).fr (Fr.of_grown hg') (fun hm => by have := (HM2.out.view.lt (Option.mem_toList.1 hm)).1; omega)); clear hv' hg' hat' q0; have q3 := HT3.out.cell_at (o := 0) rfl; have hfz3 := HT3.out.thawed))
                        go_roundw
                        case rel =>
                          exact ⟨es ++ [⟨varOf es.length, ta, tn, tc, neg, mn, mx, pa, ns.length, pc⟩], a', c', by rw [List.length_append]; rfl,
                            HM2.out.push ⟨varOf es.length, ta, tn, tc, neg, mn, mx, pa, ns.length, pc⟩ hk ⟨rfl, HMM.out.1, HMM.out.2.1, HMM.out.2.2.1, HMM.out.2.2.2, HNEG.out⟩ HHELD.out HOFF.out ((Fr.refl _ _).alloc _) HV'.out HG'.out HAT'.out⟩
                        case measure => simp [intOf]; omega
        · have HKE : Hid (es.length = n) := Lib.hid (by have := HM.out.len; omega)
          have q0 := HM.out.top.cell_at (o := 0) rfl
          have q1 := HM.out.top.cell_at (o := 1) rfl
          have q2 := HM.out.top.cell_at (o := 2) rfl
          have hfz := HM.out.top.thawed
          go_wp2_with fail
          try simp only [Exit.inBlock, Exit.then]
          have hB : Blk (((wr.setCell ⟨w.heap.size, 0, none⟩ (.slice a es.length c)).setCell ⟨w.heap.size, 1, none⟩ (.int .i64 win)).setCell ⟨w.heap.size, 2, none⟩ (.int .i64 cap)) w.heap.size [.slice a es.length c, .int .i64 win, .int .i64 cap] 67 := ((HM.out.top.set 0 _).set 1 _).set 2 _
          have hF : Fr [w.heap.size] wr (((wr.setCell ⟨w.heap.size, 0, none⟩ (.slice a es.length c)).setCell ⟨w.heap.size, 1, none⟩ (.int .i64 win)).setCell ⟨w.heap.size, 2, none⟩ (.int .i64 cap)) := (((Fr.refl _ _).set (.inl (by simp)) _).set (.inl (by simp)) _).set (.inl (by simp)) _
          refine ret_cell hB rfl rfl Try.underlying67 rfl (by kernel_rfl) rfl ?_
          have hM := HM.out.sets hF hB
          rw [← HKE.out] at hM hn4
          have hx := HX.out
          exact ⟨es, a, c, win, cap, rfl, hM, hn4.1, hn4.2, by omega, by omega, hx.1, hx.2.1⟩
end Go.Proofs.Ytcnoaflojojfkab.Qry
