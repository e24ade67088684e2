/- Up to when each of some parts knows all, in memory: what each method of align.Align does. No condition. -/
import Derived.Test.YtcnoaflojojfkaaMark
namespace Go.Proofs.Ytcnoaflojojfkaa.Align
open Go.RowKit Go.Proofs.Ytcnoaflojojfkaa.Mark
set_option linter.unusedVariables false
set_option linter.unusedSimpArgs false
set_option maxRecDepth 100000

/-- an Align in memory: its block b, its row's block g; the marks, at which each is -/
structure Al (w : World) (b g : Nat) (ats : List Int) : Prop where
  top : Blk w b [.slice (some ⟨g, 0, none⟩) ats.length ats.length] 119
  row : Blk w g (ats.map fun a => .int .i64 (a + 1)) 24
  len : 0 < ats.length ∧ ats.length ≤ 64
  ok : ∀ a ∈ ats, -1 ≤ a ∧ a ≤ 1099511627776
  ne : b ≠ g
theorem Al.fr {S : List Nat} {w w1 : World} {b g : Nat} {ats : List Int} (h : Al w b g ats) (hf : Fr S w w1) (hb : b ∉ S) (hg : g ∉ S) : Al w1 b g ats :=
  ⟨h.top.fr hf hb, h.row.fr hf hg, h.len, h.ok, h.ne⟩

/-- the earliest of some; -1 of none -/
def earliest (ats : List Int) : Int := least (ats.map (· + 1)) - 1
theorem low_le (l : List Int) : ∀ a : Int, low a l ≤ a ∧ (∀ x ∈ l, low a l ≤ x) ∧ (low a l = a ∨ low a l ∈ l) := by
  induction l with
  | nil => intro a; simp [low]
  | cons y l ih =>
    intro a
    obtain ⟨h1, h2, h3⟩ := ih (min a y)
    have e : low a (y :: l) = low (min a y) l := rfl
    rw [e]
    refine ⟨by omega, ?_, ?_⟩
    · intro x hx
      rcases List.mem_cons.1 hx with rfl | hx
      · omega
      · exact h2 x hx
    · rcases h3 with h3 | h3
      · by_cases c : a ≤ y
        · left; omega
        · right; rw [h3, show min a y = y by omega]; simp
      · right; exact List.mem_cons_of_mem _ h3
theorem early_spec (ats : List Int) (h : ats ≠ []) : earliest ats ∈ ats ∧ ∀ x ∈ ats, earliest ats ≤ x := by
  cases ats with
  | nil => exact absurd rfl h
  | cons a l =>
    obtain ⟨h1, h2, h3⟩ := low_le ((a :: l).map (· + 1)) (a + 1)
    have e : earliest (a :: l) = low (a + 1) ((a :: l).map (· + 1)) - 1 := rfl
    refine ⟨?_, fun x hx => ?_⟩
    · rcases h3 with h3 | h3
      · rw [e, h3]; simp
      · obtain ⟨y, hy, hy2⟩ := List.mem_map.1 h3
        rw [e, ← hy2, Int.add_sub_cancel]; exact hy
    · have := h2 (x + 1) (List.mem_map_of_mem hx)
      omega
theorem early_is (ats : List Int) (m : Int) (hm : m ∈ ats) (hl : ∀ x ∈ ats, m ≤ x) : earliest ats = m := by
  obtain ⟨h1, h2⟩ := early_spec ats (List.ne_nil_of_mem hm)
  have := h2 m hm
  have := hl _ h1
  omega

theorem info_mark : (Try.prog.info? 24).map (fun i => (i.zero, i.size, i.bytes)) = some (some (.agg #[.int .i64 0]), 1, 8) := by kernel_rfl
theorem made_mark (w : World) (n : Nat) : (w.alloc (.cells (madeCells (Value.agg #[.int .i64 0]).cells (n * 1)).toList.toArray 24)) = w.alloc (.cells (List.replicate n (Value.int .i64 0)).toArray 24) := by
  have e : (Value.agg #[.int .i64 0]).cells = #[Value.int .i64 0] := rfl
  rw [e, Nat.mul_one, toList_madeCells_one]
theorem new_any (parts : Int) (n : Nat) (hn : (n : Int) = min (max parts 1) 64) (w : World) :
    Calls Try.prog 53 #[.int .i64 parts] w fun e w' => e = .returned (.pointer (some ⟨w.heap.size + 1, 0, none⟩)) ∧ Al w' (w.heap.size + 1) w.heap.size (List.replicate n (-1)) ∧ Fr [] w w' := by
  obtain ⟨i0, hi, hz0, hz1, hz2⟩ := info_parts info_mark
  have hn1 : 1 ≤ n ∧ n ≤ 64 := by omega
  have hm : n ≤ maxLen := by unfold maxLen; omega
  have HN := Lib.hid hn
  clear hn
  have fin : ∀ W : World, W = (w.alloc (.cells (Array.replicate n (Value.int .i64 0)) 24)).alloc (.cells #[.slice (some ⟨w.heap.size, 0, none⟩) n n] 119) →
      Al W (w.heap.size + 1) w.heap.size (List.replicate n (-1)) ∧ Fr [] w W := by
    intro W hW
    rw [← List.toArray_replicate] at hW
    obtain ⟨B1, B2, F⟩ := new2 w (List.replicate n (Value.int .i64 0)) 24 [.slice (some ⟨w.heap.size, 0, none⟩) n n] 119
    refine ⟨⟨?_, ?_, ?_, ?_, by omega⟩, by rw [hW]; exact F⟩
    · rw [hW, List.length_replicate]; exact B2
    · rw [hW, List.map_replicate]; exact B1
    · rw [List.length_replicate]; omega
    · intro a ha; have := List.eq_of_mem_replicate ha; omega
  have FIN := Lib.hid fin
  clear fin
  go_enter Try.func53, Try.ntmps53
  go_wp2_with (first | (at_make; refine wpList_make_blk _ rfl _ _ _ rfl 24 i0 (.agg #[.int .i64 0]) 1 8 Try.underlying32 hi hz0 hz1 hz2 .i64 .i64 _ _ n rfl rfl (by rw [imin_eq, imax_eq]; exact HN.out.symm) (by rw [imin_eq, imax_eq]; exact HN.out.symm) (by omega) hm ?_; rw [made_mark]))
  go_ret
  exact ⟨rfl, FIN.out _ rfl⟩

theorem parts_nil (w : World) : Calls Try.prog 54 #[.pointer none] w fun e w' => e = .returned (.int .i64 0) ∧ w = w' := by
  go_enter Try.func54, Try.ntmps54
  go_wp2
  go_ret
  exact ⟨rfl, rfl⟩
theorem parts_any (b n c : Nat) (a : Option Addr) (w : World) (h0 : w.cell? ⟨b, 0, none⟩ = some (.slice a n c)) : Calls Try.prog 54 #[.pointer (some ⟨b, 0, none⟩)] w fun e w' => e = .returned (.int .i64 n) ∧ w = w' := by
  go_enter Try.func54, Try.ntmps54
  go_wp2
  go_ret
  exact ⟨rfl, rfl⟩
theorem to_nil (k t : Int) (w : World) : Calls Try.prog 55 #[.pointer none, .int .i64 k, .int .i64 t] w fun e w' => e = .returned (.int .i64 1) ∧ w = w' := by
  by_cases c : k < 0
  · go_enter Try.func55, Try.ntmps55
    go_wp2
    go_ret
    exact ⟨rfl, rfl⟩
  · have c2 : decide (k < 0) = false := decide_eq_false c
    have c3 : (0 : Int) ≤ k := by omega
    go_enter Try.func55, Try.ntmps55
    go_wp2_with (first | (go_at_call 54; refine (parts_nil _).mono ?_; rintro e w' ⟨rfl, rfl⟩))
    go_ret
    exact ⟨rfl, rfl⟩
theorem to_out (b g : Nat) (ats : List Int) (k t : Int) (w : World) (h : Al w b g ats) (hk : k < 0 ∨ (ats.length : Int) ≤ k) : Calls Try.prog 55 #[.pointer (some ⟨b, 0, none⟩), .int .i64 k, .int .i64 t] w fun e w' => e = .returned (.int .i64 1) ∧ w = w' := by
  have h0 := h.top.cell_at (o := 0) rfl
  clear h
  by_cases c : k < 0
  · clear hk
    go_enter Try.func55, Try.ntmps55
    go_wp2
    go_ret
    exact ⟨rfl, rfl⟩
  · have c2 : decide (k < 0) = false := decide_eq_false c
    have c3 : (ats.length : Int) ≤ k := by omega
    clear hk
    go_enter Try.func55, Try.ntmps55
    go_wp2_with (first | (go_at_call 54; refine (parts_any b _ _ _ _ h0).mono ?_; rintro e w' ⟨rfl, rfl⟩))
    go_ret
    exact ⟨rfl, rfl⟩
theorem set_ok {ats : List Int} (h : ∀ a ∈ ats, -1 ≤ a ∧ a ≤ 1099511627776) (k : Nat) (a t : Int) (ha : ats[k]? = some a) : ∀ x ∈ ats.set k (toMark a t).1, -1 ≤ x ∧ x ≤ 1099511627776 := by
  intro x hx
  rcases List.mem_or_eq_of_mem_set hx with hx | rfl
  · exact h x hx
  · have := h a (List.mem_of_getElem? ha)
    unfold toMark
    split
    · exact this
    · split
      · exact this
      · dsimp only; omega
set_option maxHeartbeats 1000000 in
theorem to_in (b g : Nat) (ats : List Int) (k : Nat) (a t : Int) (w : World) (h : Al w b g ats) (ha : ats[k]? = some a) : Calls Try.prog 55 #[.pointer (some ⟨b, 0, none⟩), .int .i64 k, .int .i64 t] w fun e w' =>
    e = .returned (.int .i64 (toMark a t).2) ∧ Al w' b g (ats.set k (toMark a t).1) ∧ Fr [b, g] w w' := by
  have h0 := h.top.cell_at (o := 0) rfl
  have hkl : k < ats.length := (List.getElem?_eq_some_iff.1 ha).1
  have c2 : decide ((k : Int) < 0) = false := decide_eq_false (by omega)
  have hk : w.cell? ⟨g, k, none⟩ = some (.int .i64 (a + 1)) := h.row.cell_at (by rw [List.getElem?_map, ha]; rfl)
  have hao := h.ok a (List.mem_of_getElem? ha)
  have HT := Lib.hid (to_any a t hao.1 hao.2 w)
  have H := Lib.hid h
  have HA := Lib.hid ha
  have hl64 := h.len.2
  have hne := h.ne
  clear h ha hao
  by_cases c : (toMark a t).2 = 0
  · obtain ⟨t', ht'⟩ : ∃ t', (toMark a t).1 = t' := ⟨_, rfl⟩
    rw [c, ht'] at HT
    have HC : Hid ((toMark a t).2 = 0 ∧ (toMark a t).1 = t') := ⟨c, ht'⟩
    clear c ht'
    go_enter Try.func55, Try.ntmps55
    go_wp2_with fail
    refine (parts_any b _ _ _ _ h0).mono ?_
    rintro e w' ⟨rfl, rfl⟩
    go_wp2_with fail
    refine HT.out.mono ?_
    rintro e w1 ⟨rfl, hF⟩
    have H1 : Hid (Al w1 b g ats) := H.out.fr hF (by simp) (by simp)
    have HF : Hid (Fr [] w w1) := hF
    have h01 := H1.out.top.cell_at (o := 0) rfl
    have hlt1 := H1.out.top.lt
    have hlt2 := H1.out.row.lt
    have hf1 := H1.out.row.thawed
    have hk1 : w1.cell? ⟨g, k, none⟩ = some (.int .i64 (a + 1)) := hF.cell hk (by simp)
    clear h0 hk hF
    go_wp2
    obtain ⟨w2, hw2⟩ : ∃ x : World, x = w1.alloc (.cells #[.int .i64 (t' + 1)] 24) := ⟨_, rfl⟩
    rw [← hw2]
    have H2 : Hid (Al w2 b g ats) := by rw [hw2]; exact H1.out.fr ((Fr.refl [] _).alloc _) (by simp) (by simp)
    have HF2 : Hid (Fr [b, g] w w2) := by rw [hw2]; exact HF.out.of_nil.alloc _
    have hb2 : Blk w2 w1.heap.size [.int .i64 (t' + 1)] 24 := by rw [hw2]; exact Blk.new _ _ _
    have hc2 := hb2.cell_at (o := 0) rfl
    clear hw2 h01 hlt1 hlt2 hf1 hk1 hb2
    have h02 := H2.out.top.cell_at (o := 0) rfl
    have hf2 := H2.out.row.thawed
    have hk2 : w2.cell? ⟨g, k, none⟩ = some (.int .i64 (a + 1)) := H2.out.row.cell_at (by rw [List.getElem?_map, HA.out]; rfl)
    go_still_tail 7, (by kernel_rfl)
    go_wp2
    go_ret
    refine ⟨ret_int HC.out.1.symm, ?_, (HF2.out.set (by simp) _).drew⟩
    rw [HC.out.2]
    refine ⟨?_, ?_, by rw [List.length_set]; exact H2.out.len, by have := set_ok H2.out.ok k a t HA.out; rw [HC.out.2] at this; exact this, hne⟩
    · rw [List.length_set]; exact (H2.out.top.set_ne hne _).drew
    · have := (H2.out.row.set k (.int .i64 (t' + 1))).drew
      rw [List.map_set]; exact this
  · have hsame : (toMark a t).1 = a := by
      unfold toMark at c ⊢
      split at c
      · rw [if_pos (by assumption)]
      · split at c
        · rw [if_neg (by assumption), if_pos (by assumption)]
        · simp at c
    have hset : ats.set k a = ats := set_self HA.out
    rw [hsame] at HT
    rw [hsame, hset]
    have hz : ((toMark a t).2 == 0) = false := by rw [beq_eq_false_iff_ne]; exact c
    obtain ⟨er, her⟩ : ∃ er, (toMark a t).2 = er := ⟨_, rfl⟩
    rw [her] at hz HT
    rw [her]
    clear c hsame hset her
    go_enter Try.func55, Try.ntmps55
    go_wp2_with fail
    refine (parts_any b _ _ _ _ h0).mono ?_
    rintro e w' ⟨rfl, rfl⟩
    go_wp2_with fail
    refine HT.out.mono ?_
    rintro e w1 ⟨rfl, hF⟩
    have H1 : Hid (Al w1 b g ats) := H.out.fr hF (by simp) (by simp)
    have HF : Hid (Fr [] w w1) := hF
    clear hF h0 hk
    go_wp2
    go_ret
    exact ⟨rfl, H1.out.fr ((Fr.refl [] _).alloc _) (by simp) (by simp), HF.out.of_nil.alloc _⟩

theorem early_rng {w : World} {b g : Nat} {ats : List Int} (h : Al w b g ats) : -1 ≤ earliest ats ∧ earliest ats ≤ 1099511627776 := by
  have hne : ats ≠ [] := by intro h0; have := h.len; rw [h0] at this; simp at this
  exact h.ok _ (early_spec ats hne).1
theorem Al.reads {w : World} {b g : Nat} {ats : List Int} (h : Al w b g ats) : Reads w 1 (.slice (some ⟨g, 0, none⟩) (ats.map (· + 1)).length ats.length) (ats.map (· + 1)).length ((ats.map (· + 1)).map (Value.int .i64)) :=
  ⟨by simp, _, _, rfl, by simp, .inr ⟨g, 0, rfl, fun j u hu => by rw [h.row.cell]; simpa using hu⟩⟩
theorem at_nil (w : World) : Calls Try.prog 58 #[.pointer none] w fun e w' => e = .returned (.int .i64 (-1)) ∧ w = w' := by
  go_enter Try.func58, Try.ntmps58
  go_wp2
  go_ret
  exact ⟨rfl, rfl⟩
theorem at_all (b g : Nat) (ats : List Int) (w : World) (h : Al w b g ats) : Calls Try.prog 58 #[.pointer (some ⟨b, 0, none⟩)] w fun e w' => e = .returned (.int .i64 (earliest ats)) ∧ Fr [] w w' := by
  have h0 := h.top.cell_at (o := 0) rfl
  have hr := early_rng h
  have HL : Hid (∀ W, Fr [] w W → Calls Try.prog 19 #[.slice (some ⟨g, 0, none⟩) ats.length ats.length] W fun e w' => e = .returned (.agg #[.int .i64 (earliest ats + 1)]) ∧ Fr [] W w') := by
    intro W hW
    have h1 := least_any (ats.map (· + 1)) (some ⟨g, 0, none⟩) ats.length W (h.reads.fr0 hW) (by rw [List.length_map]; have := h.len; omega)
    rw [List.length_map] at h1
    have e : earliest ats + 1 = least (ats.map (· + 1)) := by unfold earliest; omega
    rw [e]; exact h1
  have HA : Hid (∀ W, Calls Try.prog 16 #[.agg #[.int .i64 (earliest ats + 1)]] W fun e w' => e = .returned (.int .i64 (earliest ats)) ∧ Fr [] W w') := fun W => Mark.at_any _ hr.1 hr.2 W
  clear h hr
  go_enter Try.func58, Try.ntmps58
  go_wp2_with fail
  refine (HL.out _ (Fr.refl _ _)).mono ?_
  rintro e w1 ⟨rfl, hF1⟩
  go_wp2_with fail
  refine (HA.out _).mono ?_
  rintro e w2 ⟨rfl, hF2⟩
  go_wp2
  go_ret
  exact ⟨rfl, hF1.trans0 hF2⟩
theorem of_out (b g : Nat) (ats : List Int) (k : Int) (w : World) (h : Al w b g ats) (hk : k < 0 ∨ (ats.length : Int) ≤ k) : Calls Try.prog 57 #[.pointer (some ⟨b, 0, none⟩), .int .i64 k] w fun e w' => e = .returned (.int .i64 (-1)) ∧ w = w' := by
  have h0 := h.top.cell_at (o := 0) rfl
  clear h
  by_cases c : k < 0
  · clear hk
    go_enter Try.func57, Try.ntmps57
    go_wp2
    go_ret
    exact ⟨rfl, rfl⟩
  · have c2 : decide (k < 0) = false := decide_eq_false c
    have c3 : (ats.length : Int) ≤ k := by omega
    clear hk
    go_enter Try.func57, Try.ntmps57
    go_wp2_with (first | (go_at_call 54; refine (parts_any b _ _ _ _ h0).mono ?_; rintro e w' ⟨rfl, rfl⟩))
    go_ret
    exact ⟨rfl, rfl⟩
theorem of_in (b g : Nat) (ats : List Int) (k : Nat) (a : Int) (w : World) (h : Al w b g ats) (ha : ats[k]? = some a) : Calls Try.prog 57 #[.pointer (some ⟨b, 0, none⟩), .int .i64 k] w fun e w' => e = .returned (.int .i64 a) ∧ Fr [] w w' := by
  have h0 := h.top.cell_at (o := 0) rfl
  have hkl : k < ats.length := (List.getElem?_eq_some_iff.1 ha).1
  have c2 : decide ((k : Int) < 0) = false := decide_eq_false (by omega)
  have hk : w.cell? ⟨g, k, none⟩ = some (.int .i64 (a + 1)) := h.row.cell_at (by rw [List.getElem?_map, ha]; rfl)
  have hao := h.ok a (List.mem_of_getElem? ha)
  have HA : Hid (∀ W, Calls Try.prog 16 #[.agg #[.int .i64 (a + 1)]] W fun e w' => e = .returned (.int .i64 a) ∧ Fr [] W w') := fun W => Mark.at_any _ hao.1 hao.2 W
  have hl64 := h.len.2
  clear h ha hao
  go_enter Try.func57, Try.ntmps57
  go_wp2_with fail
  refine (parts_any b _ _ _ _ h0).mono ?_
  rintro e w' ⟨rfl, rfl⟩
  go_wp2_with fail
  refine (HA.out _).mono ?_
  rintro e w2 ⟨rfl, hF2⟩
  go_wp2
  go_ret
  exact ⟨rfl, hF2⟩
/-- the parts that are no further than all are -/
def behind (ats : List Int) (m : Int) (k : Nat) : List Int := ((List.range k).filter fun j => decide (ats[j]? = some m)).map fun (j : Nat) => (j : Int)
theorem behind_len (ats : List Int) (m : Int) (k : Nat) : (behind ats m k).length ≤ k := by
  unfold behind; rw [List.length_map]; exact Nat.le_trans (List.length_filter_le _ _) (by simp)
theorem behind_succ (ats : List Int) (m : Int) (k : Nat) : behind ats m (k + 1) = if ats[k]? = some m then behind ats m k ++ [(k : Int)] else behind ats m k := by
  unfold behind
  rw [List.range_succ, List.filter_append, List.map_append]
  split
  · rename_i h; simp [h]
  · rename_i h; simp [h]
theorem info_int : (Try.prog.info? 3).map (fun i => (i.zero, i.size, i.bytes)) = some (some (.int .i64 0), 1, 8) := by kernel_rfl
set_option maxHeartbeats 2000000 in
theorem behind_any (b g : Nat) (ats : List Int) (w : World) (h : Al w b g ats) : Calls Try.prog 56 #[.pointer (some ⟨b, 0, none⟩)] w fun e w' =>
    ∃ a c, e = .returned (.slice a (behind ats (earliest ats) ats.length).length c) ∧ View w' w.heap.size 3 1 (.slice a (behind ats (earliest ats) ats.length).length c) (behind ats (earliest ats) ats.length).length ((behind ats (earliest ats) ats.length).map (Value.int .i64)) ∧ Fr [] w w' := by
  obtain ⟨i0, hi0, hz0, hz1, hz2⟩ := info_parts info_int
  have h0 := h.top.cell_at (o := 0) rfl
  have hl64 := h.len.2
  have H : Hid (∀ W, Fr [] w W → Al W b g ats) := fun W hW => h.fr hW (by simp) (by simp)
  obtain ⟨m, hm⟩ : ∃ m, earliest ats = m := ⟨_, rfl⟩
  have HALL : Hid (∀ W, Fr [] w W → Calls Try.prog 58 #[.pointer (some ⟨b, 0, none⟩)] W fun e w' => e = .returned (.int .i64 m) ∧ Fr [] W w') := fun W hW => by rw [← hm]; exact at_all b g ats W (H.out W hW)
  rw [hm]
  clear h hm
  go_enter Try.func56, Try.ntmps56
  go_wp2_with (first | (go_at_call 54; refine (parts_any b _ _ _ _ h0).mono ?_; rintro e w' ⟨rfl, rfl⟩))
  go_loopw [3, 7] (fun v3 v7 wr => ∃ (k : Nat) (a : Option Addr) (c : Nat), k ≤ ats.length ∧ v7 = .int .i64 k ∧ v3 = .slice a (behind ats m k).length c ∧ View wr w.heap.size 3 1 (.slice a (behind ats m k).length c) (behind ats m k).length ((behind ats m k).map (Value.int .i64)) ∧ Fr [] w wr) (fun _ v7 _ => ats.length - (intOf v7).toNat)
  case atStart => exact ⟨0, none, 0, by omega, rfl, rfl, View.nil _ _ _ _, Fr.refl _ _⟩
  case round =>
    obtain ⟨k, a, c, hk, rfl, rfl, hV, hF⟩ := hrel
    have HV := Lib.hid hV
    have HF := Lib.hid hF
    clear hV hF h0
    by_cases hkl : k < ats.length
    · obtain ⟨y, hy⟩ : ∃ y, ats[k]? = some y := ⟨ats[k], by simp [hkl]⟩
      have hAl := H.out _ HF.out
      have h0 := hAl.top.cell_at (o := 0) rfl
      have hck : wr.cell? ⟨g, k, none⟩ = some (.int .i64 (y + 1)) := hAl.row.cell_at (by rw [List.getElem?_map, hy]; rfl)
      have hyo := hAl.ok y (List.mem_of_getElem? hy)
      have HA : Hid (∀ W, Calls Try.prog 16 #[.agg #[.int .i64 (y + 1)]] W fun e w' => e = .returned (.int .i64 y) ∧ Fr [] W w') := fun W => Mark.at_any _ hyo.1 hyo.2 W
      have HS := Lib.hid (behind_succ ats m k)
      have hbl := behind_len ats m k
      by_cases hym : y = m
      · have HY : Hid (ats[k]? = some m) := by show ats[k]? = some m; rw [hy, hym]
        have HYM := Lib.hid hym
        have heq : (y == m) = true := by rw [hym]; simp
        clear hy hyo hAl hym
        go_wp2_with fail
        refine (HA.out _).mono ?_
        rintro e w1 ⟨rfl, hF1⟩
        have HF1 : Hid (Fr [] w w1) := HF.out.trans0 hF1
        have HV1 : Hid (View w1 w.heap.size 3 1 (.slice a (behind ats m k).length c) (behind ats m k).length ((behind ats m k).map (Value.int .i64))) := HV.out.fr0 hF1
        clear hF1 h0 hck
        go_wp2_with fail
        refine (HALL.out _ HF1.out).mono ?_
        rintro e w2 ⟨rfl, hF2⟩
        have HF2 : Hid (Fr [] w w2) := HF1.out.trans0 hF2
        have HV2 : Hid (View w2 w.heap.size 3 1 (.slice a (behind ats m k).length c) (behind ats m k).length ((behind ats m k).map (Value.int .i64))) := HV1.out.fr0 hF2
        clear hF2
        go_wp2_with (first | (at_builtin; refine wpList_append_view _ rfl _ _ 35 rfl w.heap.size 3 i0 (.int .i64 0) 1 8 Try.underlying35 hi0 hz0 hz1 hz2 rfl _ _ (behind ats m k).length _ rfl (HV2.out.alloc _) _ 1 [.int .i64 k] rfl (reads_one _ _ _) (by simp [Value.oneCell']) (by unfold maxLen; omega) (by omega) (by have := HF2.out.size; simp; omega) ?_; intro a' c' w' hv' hg' hat'; have HV' := Lib.hid hv'; have HG' := Lib.hid hg'; clear hv' hg' hat'))
        go_roundw
        case rel =>
          refine ⟨k + 1, a', c', by omega, by go_num, ?_⟩
          rw [HS.out, if_pos HY.out, List.length_append, List.length_singleton, List.map_append]
          exact ⟨rfl, HV'.out, (HF2.out.alloc _).grown HG'.out (fun j hj => .inr (HV2.out.lt hj).1)⟩
        case measure => simp [intOf]; omega
      · have HY : Hid (¬ ats[k]? = some m) := by intro h; rw [hy] at h; exact hym (Option.some.inj h)
        have heq : (y == m) = false := by rw [beq_eq_false_iff_ne]; exact hym
        clear hy hyo hAl hym
        go_wp2_with fail
        refine (HA.out _).mono ?_
        rintro e w1 ⟨rfl, hF1⟩
        have HF1 : Hid (Fr [] w w1) := HF.out.trans0 hF1
        clear h0 hck
        go_wp2_with fail
        refine (HALL.out _ HF1.out).mono ?_
        rintro e w2 ⟨rfl, hF2⟩
        have HF2 : Hid (Fr [] w w2) := HF1.out.trans0 hF2
        have HV2 : Hid (View w2 w.heap.size 3 1 (.slice a (behind ats m k).length c) (behind ats m k).length ((behind ats m k).map (Value.int .i64))) := (HV.out.fr0 hF1).fr0 hF2
        clear hF2 hF1
        go_wp2_with fail
        go_roundw
        case rel =>
          refine ⟨k + 1, a, c, by omega, by go_num, ?_⟩
          rw [HS.out, if_neg HY.out]
          exact ⟨rfl, HV2.out, HF2.out⟩
        case measure => simp [intOf]; omega
    · obtain rfl : k = ats.length := by omega
      go_wp2_with fail
      go_ret
      exact ⟨a, c, rfl, HV.out, HF.out⟩
theorem behind_nil (w : World) : Calls Try.prog 56 #[.pointer none] w fun e w' => e = .returned (.slice none 0 0) ∧ w = w' := by
  go_enter Try.func56, Try.ntmps56
  go_wp2_with (first | (go_at_call 54; refine (parts_nil _).mono ?_; rintro e w' ⟨rfl, rfl⟩))
  refine wp_loop_rounds 1 ?_
  rw [rounds_succ]
  go_wp2_with fail
  go_ret
  exact ⟨rfl, rfl⟩
theorem parts_al (b g : Nat) (ats : List Int) (w : World) (h : Al w b g ats) : Calls Try.prog 54 #[.pointer (some ⟨b, 0, none⟩)] w fun e w' => e = .returned (.int .i64 ats.length) ∧ w = w' :=
  parts_any b _ _ _ w (h.top.cell_at (o := 0) rfl)

theorem awake_any (w : World) : Calls Try.prog 59 #[] w fun e w' => e = .returned (.bool true) ∧ Fr [] w w' := by
  go_enter Try.func59, Try.ntmps59
  go_wp2_with fail
  refine (new_any 2 2 (by omega) w).mono ?_
  rintro e w1 ⟨rfl, R1, F1⟩
  obtain ⟨p, hp⟩ : ∃ p, p = w.heap.size + 1 := ⟨_, rfl⟩
  obtain ⟨q, hq⟩ : ∃ q, q = w.heap.size := ⟨_, rfl⟩
  rw [← hp, ← hq] at R1
  rw [← hp]
  have HP : Hid (∀ b ∈ [p, q], b ∈ ([] : List Nat) ∨ w.heap.size ≤ b) := by intro b hb; simp at hb; right; omega
  have F1' := Lib.hid F1
  clear hp hq F1
  have R1' : Hid (Al w1 p q [-1, -1]) := R1
  clear R1
  go_wp2_with fail
  refine (to_in p q _ 0 (-1) 5 w1 R1'.out rfl).mono ?_
  rintro e w2 ⟨rfl, hR2, hF2⟩
  have R2 : Hid (Al w2 p q [5, -1]) := hR2
  have F2 : Hid (Fr [] w w2) := F1'.out.trans hF2 HP.out
  have e1 : (toMark (-1) 5).2 = 0 := rfl
  rw [e1]
  clear hR2 hF2 e1
  go_wp2_with fail
  refine (behind_any p q _ w2 R2.out).mono ?_
  rintro e w3 ⟨a3, c3, rfl, hV, hF3⟩
  have e2 : behind [5, -1] (earliest [5, -1]) [5, -1].length = [1] := rfl
  rw [e2] at hV
  rw [e2]
  have R3 : Hid (Al w3 p q [5, -1]) := R2.out.fr hF3 (by simp) (by simp)
  have F3 : Hid (Fr [] w w3) := F2.out.trans0 hF3
  obtain ⟨_, a', c', h1, _, h | ⟨g6, o6, h2, h⟩⟩ := hV.reads
  · simp at h
  simp only [List.length_singleton, Value.slice.injEq, true_and] at h1
  obtain ⟨rfl, rfl⟩ := h1
  subst h2
  have HC : Hid (w3.cell? ⟨g6, o6, none⟩ = some (.int .i64 1)) := h 0 _ rfl
  clear h hV e2 hF3
  go_wp2_with fail
  refine (at_all p q _ w3 R3.out).mono ?_
  rintro e w4 ⟨rfl, hF4⟩
  have e3 : earliest [5, -1] = -1 := rfl
  rw [e3]
  have R4 : Hid (Al w4 p q [5, -1]) := R3.out.fr hF4 (by simp) (by simp)
  have F4 : Hid (Fr [] w w4) := F3.out.trans0 hF4
  have HC4 : Hid (w4.cell? ⟨g6, o6, none⟩ = some (.int .i64 1)) := hF4.cell HC.out (by simp)
  clear hF4 e3
  go_wp2_with fail
  refine (of_in p q _ 0 5 w4 R4.out rfl).mono ?_
  rintro e w5 ⟨rfl, hF5⟩
  have F5 : Hid (Fr [] w w5) := F4.out.trans0 hF5
  have hc5 : w5.cell? ⟨g6, o6, none⟩ = some (.int .i64 1) := hF5.cell HC4.out (by simp)
  clear hF5
  go_wp2
  go_ret
  exact ⟨rfl, F5.out⟩
end Go.Proofs.Ytcnoaflojojfkaa.Align
