/- A ring of numbers with room for so many: what each method of fifo.Fifo[int] does to it, in memory. No condition. -/
import Derived.Test.YtcnoaflojojfkaaView
namespace Go.Proofs.Ytcnoaflojojfkaa.Fifo
open Go.RowKit
set_option linter.unusedVariables false
set_option linter.unusedSimpArgs false
set_option maxRecDepth 100000

/-- a ring of numbers in memory: the struct's block b, its row's block g; room m, from, n; the cells -/
structure Ring (w : World) (b g m fr n : Nat) (cs : List Int) : Prop where
  top : Blk w b [.slice (some ⟨g, 0, none⟩) m m, .int .i64 fr, .int .i64 n] 117
  row : Blk w g (cs.map (Value.int .i64)) 3
  len : cs.length = m
  room : 0 < m ∧ m ≤ 1024
  from_lt : fr < m
  most : n ≤ m
  ne : b ≠ g

theorem Ring.fr {S : List Nat} {w w1 : World} {b g m fr n : Nat} {cs : List Int} (h : Ring w b g m fr n cs) (hf : Fr S w w1) (hb : b ∉ S) (hg : g ∉ S) : Ring w1 b g m fr n cs :=
  ⟨h.top.fr hf hb, h.row.fr hf hg, h.len, h.room, h.from_lt, h.most, h.ne⟩

/-- what is in the ring, the first one first -/
def things (cs : List Int) (m fr n : Nat) : List Int := (List.range n).map fun i => cs.getD ((fr + i) % m) 0

theorem things_len (cs : List Int) (m fr n : Nat) : (things cs m fr n).length = n := by simp [things]
theorem things_get (cs : List Int) (m fr n i : Nat) (h : i < n) : (things cs m fr n)[i]? = some (cs.getD ((fr + i) % m) 0) := by
  simp [things, h]
theorem mod_ne {m fr i n : Nat} (hm : 0 < m) (hi : i < n) (hn : n < m) : (fr + i) % m ≠ (fr + n) % m := by
  intro e
  have h1 : (fr + n) % m = ((fr + i) % m + (n - i)) % m := by rw [Nat.mod_add_mod]; congr 1; omega
  rw [← e] at h1
  have h3 := Nat.mod_lt (fr + i) hm
  generalize (fr + i) % m = r at h1 h3
  by_cases c : r + (n - i) < m
  · rw [Nat.mod_eq_of_lt c] at h1; omega
  · rw [Nat.mod_eq_sub_mod (by omega), Nat.mod_eq_of_lt (by omega)] at h1; omega
theorem things_push (cs : List Int) (m fr n : Nat) (x : Int) (hl : cs.length = m) (hm : 0 < m) (hn : n < m) :
    things (cs.set ((fr + n) % m) x) m fr (n + 1) = things cs m fr n ++ [x] := by
  unfold things
  rw [List.range_succ, List.map_append]
  congr 1
  · apply List.map_congr_left
    intro i hi
    have hi' : i < n := by simpa using hi
    have hne := mod_ne (fr := fr) hm hi' hn
    simp only [List.getD_eq_getElem?_getD]
    rw [List.getElem?_set_ne (fun e => hne e.symm)]
  · have : (fr + n) % m < cs.length := by rw [hl]; exact Nat.mod_lt _ hm
    simp [List.getD_eq_getElem?_getD, this]
theorem things_pop (cs : List Int) (m fr n : Nat) (y : Int) (hl : cs.length = m) (hm : 0 < m) (hn : n < m) (hf : fr < m) :
    things (cs.set fr y) m ((fr + 1) % m) n = (things cs m fr (n + 1)).tail := by
  apply List.ext_getElem?
  intro i
  rw [List.getElem?_tail]
  by_cases hi : i < n
  · rw [things_get _ _ _ _ _ hi, things_get _ _ _ _ _ (by omega)]
    have e : ((fr + 1) % m + i) % m = (fr + (i + 1)) % m := by rw [Nat.mod_add_mod]; congr 1; omega
    have hne : fr ≠ (fr + (i + 1)) % m := by
      have := mod_ne (fr := fr) (i := 0) (n := i + 1) hm (by omega) (by omega)
      rw [Nat.add_zero, Nat.mod_eq_of_lt hf] at this
      exact this
    rw [e]
    simp only [List.getD_eq_getElem?_getD]
    rw [List.getElem?_set_ne hne]
  · rw [List.getElem?_eq_none (by rw [things_len]; omega), List.getElem?_eq_none (by rw [things_len]; omega)]

theorem len_any (b n : Nat) (w : World) (h2 : w.cell? ⟨b, 2, none⟩ = some (.int .i64 n)) :
    Calls Try.prog 46 #[.pointer (some ⟨b, 0, none⟩)] w fun e w' => e = .returned (.int .i64 n) ∧ w = w' := by
  go_enter Try.func46, Try.ntmps46
  go_wp2
  go_ret
  exact ⟨rfl, rfl⟩
theorem len_nil (w : World) :
    Calls Try.prog 46 #[.pointer none] w fun e w' => e = .returned (.int .i64 0) ∧ w = w' := by
  go_enter Try.func46, Try.ntmps46
  go_wp2
  go_ret
  exact ⟨rfl, rfl⟩
theorem room_any (b c n : Nat) (a : Option Addr) (w : World) (h2 : w.cell? ⟨b, 0, none⟩ = some (.slice a n c)) :
    Calls Try.prog 48 #[.pointer (some ⟨b, 0, none⟩)] w fun e w' => e = .returned (.int .i64 n) ∧ w = w' := by
  go_enter Try.func48, Try.ntmps48
  go_wp2
  go_ret
  exact ⟨rfl, rfl⟩
theorem room_nil (w : World) :
    Calls Try.prog 48 #[.pointer none] w fun e w' => e = .returned (.int .i64 0) ∧ w = w' := by
  go_enter Try.func48, Try.ntmps48
  go_wp2
  go_ret
  exact ⟨rfl, rfl⟩
theorem full_any (b c m n : Nat) (a : Option Addr) (r : Bool) (hr : r = decide (n = m)) (w : World) (h0 : w.cell? ⟨b, 0, none⟩ = some (.slice a m c)) (h2 : w.cell? ⟨b, 2, none⟩ = some (.int .i64 n)) :
    Calls Try.prog 47 #[.pointer (some ⟨b, 0, none⟩)] w fun e w' => e = .returned (.bool r) ∧ w = w' := by
  go_enter Try.func47, Try.ntmps47
  go_wp2_with (first | (go_at_call 46; refine (len_any b n _ h2).mono ?_; rintro e w' ⟨rfl, rfl⟩) | (go_at_call 48; refine (room_any b c m a _ h0).mono ?_; rintro e w' ⟨rfl, rfl⟩))
  go_ret
  exact ⟨ret_bool (by rw [hr, Bool.eq_iff_iff]; simp; omega), rfl⟩
theorem full_nil (w : World) :
    Calls Try.prog 47 #[.pointer none] w fun e w' => e = .returned (.bool true) ∧ w = w' := by
  go_enter Try.func47, Try.ntmps47
  go_wp2_with (first | (go_at_call 46; refine (len_nil _).mono ?_; rintro e w' ⟨rfl, rfl⟩) | (go_at_call 48; refine (room_nil _).mono ?_; rintro e w' ⟨rfl, rfl⟩))
  go_ret
  exact ⟨rfl, rfl⟩
theorem push_nil (x : Int) (w : World) :
    Calls Try.prog 42 #[.pointer none, .int .i64 x] w fun e w' => e = .returned (.bool false) ∧ w = w' := by
  go_enter Try.func42, Try.ntmps42
  go_wp2_with (first | (go_at_call 47; refine (full_nil _).mono ?_; rintro e w' ⟨rfl, rfl⟩))
  go_ret
  exact ⟨rfl, rfl⟩
theorem push_full (b g m fr n : Nat) (cs : List Int) (x : Int) (w : World) (h : Ring w b g m fr n cs) (hn : n = m) :
    Calls Try.prog 42 #[.pointer (some ⟨b, 0, none⟩), .int .i64 x] w fun e w' => e = .returned (.bool false) ∧ w = w' := by
  have h0 := h.top.cell_at (o := 0) rfl
  have h2 := h.top.cell_at (o := 2) rfl
  have hr : true = decide (n = m) := by simp [hn]
  have HN := Lib.hid hn
  clear hn
  go_enter Try.func42, Try.ntmps42
  go_wp2_with (first | (go_at_call 47; refine (full_any b m m n _ true hr _ h0 h2).mono ?_; rintro e w' ⟨rfl, rfl⟩))
  go_ret
  exact ⟨rfl, rfl⟩
theorem push_room (b g m fr n : Nat) (cs : List Int) (x : Int) (w : World) (h : Ring w b g m fr n cs) (hn : n < m) :
    Calls Try.prog 42 #[.pointer (some ⟨b, 0, none⟩), .int .i64 x] w fun e w' => e = .returned (.bool true) ∧ Ring w' b g m fr (n + 1) (cs.set ((fr + n) % m) x) ∧ Fr [b, g] w w' := by
  have h0 := h.top.cell_at (o := 0) rfl
  have h1 := h.top.cell_at (o := 1) rfl
  have h2 := h.top.cell_at (o := 2) rfl
  have hm := h.room
  have hf := h.from_lt
  have hne := h.ne
  have hr : false = decide (n = m) := by rw [eq_comm, decide_eq_false_iff_not]; omega
  have hz : ¬ m = 0 := by omega
  have hw : IntKind.i64.wrap ((fr : Int) + n) = (fr : Int) + n := IntWalk.i64_in _ (by omega)
  have hi0 : 0 ≤ ((fr : Int) + n) % m := Int.emod_nonneg _ (by omega)
  have hi1 : ((fr : Int) + n) % m < m := Int.emod_lt_of_pos _ (by omega)
  have hfz := h.row.thawed
  have hfz2 := h.top.thawed
  have hcx : (fr + n) % m < cs.length := by rw [h.len]; exact Nat.mod_lt _ (by omega)
  have hcell : w.cell? ⟨g, (fr + n) % m, none⟩ = some (.int .i64 (cs.getD ((fr + n) % m) 0)) := h.row.cell_at (by simp [hcx])
  have HR := Lib.hid hr
  clear hr
  go_enter Try.func42, Try.ntmps42
  go_wp2_with (first | (go_at_call 47; refine (full_any b m m n _ false HR.out _ h0 h2).mono ?_; rintro e w' ⟨rfl, rfl⟩))
  go_still_tail 20, (by kernel_rfl)
  go_wp2
  go_ret
  refine ⟨rfl, ⟨?_, ?_, by rw [List.length_set]; exact h.len, hm, hf, by omega, hne⟩, (((Fr.refl _ _).set (by simp) _).set (by simp) _).drew⟩
  · exact ((h.top.set_ne hne _).set 2 _).drew
  · have := ((h.row.set ((fr + n) % m) (.int .i64 x)).set_ne (a := ⟨b, 2, none⟩) (Ne.symm hne) (.int .i64 ((n : Int) + 1))).drew
    rw [List.map_set]; exact this

theorem peek_none (b : Nat) (p : Option Addr) (w : World) (h : p = none ∨ (p = some ⟨b, 0, none⟩ ∧ w.cell? ⟨b, 2, none⟩ = some (.int .i64 (0 : Nat)))) :
    Calls Try.prog 44 #[.pointer p] w fun e w' => e = .returned (.tuple #[.int .i64 0, .bool false]) ∧ w = w' := by
  rcases h with rfl | ⟨rfl, h2⟩
  · go_enter Try.func44, Try.ntmps44
    go_wp2_with (first | (go_at_call 46; refine (len_nil _).mono ?_; rintro e w' ⟨rfl, rfl⟩))
    go_ret2
    exact ⟨rfl, rfl⟩
  · go_enter Try.func44, Try.ntmps44
    go_wp2_with (first | (go_at_call 46; refine (len_any b 0 _ h2).mono ?_; rintro e w' ⟨rfl, rfl⟩))
    go_ret2
    exact ⟨rfl, rfl⟩
theorem peek_some (b g m fr n : Nat) (cs : List Int) (w : World) (h : Ring w b g m fr n cs) (hn : 0 < n) :
    Calls Try.prog 44 #[.pointer (some ⟨b, 0, none⟩)] w fun e w' => e = .returned (.tuple #[.int .i64 (cs.getD fr 0), .bool true]) ∧ ∃ k, w' = w.drewN k := by
  have h0 := h.top.cell_at (o := 0) rfl
  have h1 := h.top.cell_at (o := 1) rfl
  have h2 := h.top.cell_at (o := 2) rfl
  have hf := h.from_lt
  have hm := h.room
  have hcx : fr < cs.length := by rw [h.len]; exact hf
  have hcell : w.cell? ⟨g, fr, none⟩ = some (.int .i64 (cs.getD fr 0)) := h.row.cell_at (by simp [hcx])
  generalize cs.getD fr 0 = y at hcell ⊢
  go_enter Try.func44, Try.ntmps44
  go_wp2_with (first | (go_at_call 46; refine (len_any b n _ h2).mono ?_; rintro e w' ⟨rfl, rfl⟩))
  go_quiet (fail)
  go_wp2
  go_ret2
  exact ⟨rfl, _, rfl⟩
theorem pop_none (b : Nat) (p : Option Addr) (w : World) (h : p = none ∨ (p = some ⟨b, 0, none⟩ ∧ w.cell? ⟨b, 2, none⟩ = some (.int .i64 (0 : Nat)))) :
    Calls Try.prog 43 #[.pointer p] w fun e w' => e = .returned (.tuple #[.int .i64 0, .bool false]) ∧ w = w' := by
  have H := Lib.hid h
  clear h
  go_enter Try.func43, Try.ntmps43
  go_wp2_with (first | (go_at_call 44; refine (peek_none b p _ H.out).mono ?_; rintro e w' ⟨rfl, rfl⟩))
  go_ret2
  exact ⟨rfl, rfl⟩
theorem pop_some (b g m fr n : Nat) (cs : List Int) (w0 : World) (h' : Ring w0 b g m fr (n + 1) cs) :
    Calls Try.prog 43 #[.pointer (some ⟨b, 0, none⟩)] w0 fun e w' => e = .returned (.tuple #[.int .i64 (cs.getD fr 0), .bool true]) ∧ Ring w' b g m ((fr + 1) % m) n (cs.set fr 0) ∧ Fr [b, g] w0 w' := by
  have HPK := Lib.hid (peek_some b g m fr (n + 1) cs w0 h' (by omega))
  have hcx : fr < cs.length := by rw [h'.len]; exact h'.from_lt
  have hy : (cs.map (Value.int .i64))[fr]? = some (.int .i64 (cs.getD fr 0)) := by simp [hcx]
  have HY := Lib.hid hy
  clear hy
  generalize cs.getD fr 0 = y at HY HPK ⊢
  go_enter Try.func43, Try.ntmps43
  go_wp2_with fail
  refine HPK.out.mono ?_
  rintro e w ⟨rfl, nk, hk⟩
  have h : Ring w b g m fr (n + 1) cs := h'.fr (S := []) (Fr.of_drewN hk) (by simp) (by simp)
  have F0 : Fr [b, g] w0 w := Fr.of_drewN hk
  clear hk h'
  have h0 := h.top.cell_at (o := 0) rfl
  have h1 := h.top.cell_at (o := 1) rfl
  have h2 := h.top.cell_at (o := 2) rfl
  have hf := h.from_lt
  have hm := h.room
  have hn := h.most
  have hne := h.ne
  have hfz := h.row.thawed
  have hfz2 := h.top.thawed
  have hz : ¬ m = 0 := by omega
  have hcell := h.row.cell_at HY.out
  have hw : IntKind.i64.wrap ((fr : Int) + 1) = (fr : Int) + 1 := IntWalk.i64_in _ (by omega)
  have hi0 : 0 ≤ ((fr : Int) + 1) % m := Int.emod_nonneg _ (by omega)
  have hi1 : ((fr : Int) + 1) % m < m := Int.emod_lt_of_pos _ (by omega)
  go_wp2
  go_still_tail 10, (by kernel_rfl)
  go_wp2
  obtain ⟨w2, hw2⟩ : ∃ x : World, x = (w.setCell ⟨g, fr, none⟩ (.int .i64 0)).drew := ⟨_, rfl⟩
  rw [← hw2]
  have t2 : Blk w2 b [.slice (some ⟨g, 0, none⟩) m m, .int .i64 fr, .int .i64 (n + 1 : Nat)] 117 := by rw [hw2]; exact (h.top.set_ne hne _).drew
  have r2 : Blk w2 g ((cs.set fr 0).map (Value.int .i64)) 3 := by rw [hw2, List.map_set]; exact (h.row.set fr _).drew
  have f2 : Fr [b, g] w0 w2 := by rw [hw2]; exact (F0.set (by simp) _).drew
  clear hw2 h0 h1 h2 hfz hfz2 hcell
  have h0 := t2.cell_at (o := 0) rfl
  have h1 := t2.cell_at (o := 1) rfl
  have h2 := t2.cell_at (o := 2) rfl
  have hfz2 := t2.thawed
  go_still_tail 14, (by kernel_rfl)
  go_wp2
  go_ret2
  refine ⟨rfl, ⟨?_, (r2.set_ne (Ne.symm hne) _).drew.set_ne (Ne.symm hne) _, by rw [List.length_set]; exact h.len, hm, Nat.mod_lt _ (by omega), by omega, hne⟩, ((f2.set (by simp) _).drew).set (by simp) _⟩
  have := ((t2.set 1 (.int .i64 (((fr : Int) + 1) % m))).set 2 (.int .i64 n)).drew
  simpa using this

theorem at_out (b n : Nat) (p : Option Addr) (i : Int) (w : World) (h : p = none ∨ (p = some ⟨b, 0, none⟩ ∧ w.cell? ⟨b, 2, none⟩ = some (.int .i64 n))) (hi : i < 0 ∨ (n : Int) ≤ i) (hp : p = none → 0 ≤ (n : Int) ∧ n = 0) :
    Calls Try.prog 49 #[.pointer p, .int .i64 i] w fun e w' => e = .returned (.tuple #[.int .i64 0, .bool false]) ∧ w = w' := by
  by_cases c : i < 0
  · have H := Lib.hid h
    clear h hi hp
    go_enter Try.func49, Try.ntmps49
    go_wp2
    go_ret2
    exact ⟨rfl, rfl⟩
  · have hi2 : (n : Int) ≤ i := by omega
    have c2 : decide (i < 0) = false := decide_eq_false c
    rcases h with rfl | ⟨rfl, h2⟩
    · obtain ⟨_, rfl⟩ := hp rfl
      clear hp hi
      have c3 : (0 : Int) ≤ i := by omega
      go_enter Try.func49, Try.ntmps49
      go_wp2_with (first | (go_at_call 46; refine (len_nil _).mono ?_; rintro e w' ⟨rfl, rfl⟩))
      go_ret2
      exact ⟨rfl, rfl⟩
    · clear hp hi
      go_enter Try.func49, Try.ntmps49
      go_wp2_with (first | (go_at_call 46; refine (len_any b n _ h2).mono ?_; rintro e w' ⟨rfl, rfl⟩))
      go_ret2
      exact ⟨rfl, rfl⟩
theorem at_in (b g m fr n : Nat) (cs : List Int) (i : Nat) (w : World) (h : Ring w b g m fr n cs) (hi : i < n) :
    Calls Try.prog 49 #[.pointer (some ⟨b, 0, none⟩), .int .i64 i] w fun e w' => e = .returned (.tuple #[.int .i64 (cs.getD ((fr + i) % m) 0), .bool true]) ∧ ∃ k, w' = w.drewN k := by
  have h0 := h.top.cell_at (o := 0) rfl
  have h1 := h.top.cell_at (o := 1) rfl
  have h2 := h.top.cell_at (o := 2) rfl
  have hf := h.from_lt
  have hm := h.room
  have hmo := h.most
  have hz : ¬ m = 0 := by omega
  have hcx : (fr + i) % m < cs.length := by rw [h.len]; exact Nat.mod_lt _ (by omega)
  have hcell : w.cell? ⟨g, (fr + i) % m, none⟩ = some (.int .i64 (cs.getD ((fr + i) % m) 0)) := h.row.cell_at (by simp [hcx])
  have hw : IntKind.i64.wrap ((fr : Int) + i) = (fr : Int) + i := IntWalk.i64_in _ (by omega)
  have hi0 : 0 ≤ ((fr : Int) + i) % m := Int.emod_nonneg _ (by omega)
  have hi1 : ((fr : Int) + i) % m < m := Int.emod_lt_of_pos _ (by omega)
  have c2 : decide ((i : Int) < 0) = false := decide_eq_false (by omega)
  clear h hcx
  generalize cs.getD ((fr + i) % m) 0 = y at hcell ⊢
  go_enter Try.func49, Try.ntmps49
  go_wp2_with (first | (go_at_call 46; refine (len_any b n _ h2).mono ?_; rintro e w' ⟨rfl, rfl⟩))
  go_quiet (fail)
  go_wp2
  go_ret2
  exact ⟨rfl, _, rfl⟩

theorem last_nil (w : World) :
    Calls Try.prog 45 #[.pointer none] w fun e w' => e = .returned (.tuple #[.int .i64 0, .bool false]) ∧ w = w' := by
  go_enter Try.func45, Try.ntmps45
  go_wp2_with (first | (go_at_call 46; refine (len_nil _).mono ?_; rintro e w' ⟨rfl, rfl⟩) | (go_at_call 49; refine (at_out 0 0 none _ _ (.inl rfl) (.inl (by decide)) (fun _ => ⟨by omega, rfl⟩)).mono ?_; rintro e w' ⟨rfl, rfl⟩))
  go_ret2
  exact ⟨rfl, rfl⟩
theorem last_none (b : Nat) (w : World) (h2 : w.cell? ⟨b, 2, none⟩ = some (.int .i64 (0 : Nat))) :
    Calls Try.prog 45 #[.pointer (some ⟨b, 0, none⟩)] w fun e w' => e = .returned (.tuple #[.int .i64 0, .bool false]) ∧ w = w' := by
  go_enter Try.func45, Try.ntmps45
  go_wp2_with (first | (go_at_call 46; refine (len_any b 0 _ h2).mono ?_; rintro e w' ⟨rfl, rfl⟩) | (go_at_call 49; refine (at_out b 0 _ _ _ (.inr ⟨rfl, h2⟩) (.inl (by decide)) (fun h => by cases h)).mono ?_; rintro e w' ⟨rfl, rfl⟩))
  go_ret2
  exact ⟨rfl, rfl⟩
theorem last_some (b g m fr n : Nat) (cs : List Int) (w : World) (h : Ring w b g m fr (n + 1) cs) :
    Calls Try.prog 45 #[.pointer (some ⟨b, 0, none⟩)] w fun e w' => e = .returned (.tuple #[.int .i64 (cs.getD ((fr + n) % m) 0), .bool true]) ∧ ∃ k, w' = w.drewN k := by
  have h2 := h.top.cell_at (o := 2) rfl
  have hmo := h.most
  have hm := h.room
  have HA := Lib.hid (at_in b g m fr (n + 1) cs n w h (by omega))
  clear h
  go_enter Try.func45, Try.ntmps45
  go_wp2_with (first | (go_at_call 46; refine (len_any b (n + 1) _ h2).mono ?_; rintro e w' ⟨rfl, rfl⟩) | (go_at_call 49; refine HA.out.mono ?_; rintro e w' ⟨rfl, nk, rfl⟩))
  go_ret2
  exact ⟨rfl, _, rfl⟩
theorem clear_nil (w : World) :
    Calls Try.prog 51 #[.pointer none] w fun e w' => e = .returned (.int .i64 0) ∧ w = w' := by
  go_enter Try.func51, Try.ntmps51
  go_wp2
  refine wp_loop_rounds 1 ?_
  rw [rounds_succ]
  go_wp2_with (first | (go_at_call 43; refine (pop_none 0 none _ (.inl rfl)).mono ?_; rintro e w' ⟨rfl, rfl⟩))
  go_ret
  exact ⟨rfl, rfl⟩
theorem clear_any (b g m fr n : Nat) (cs : List Int) (w : World) (h : Ring w b g m fr n cs) :
    Calls Try.prog 51 #[.pointer (some ⟨b, 0, none⟩)] w fun e w' => e = .returned (.int .i64 n) ∧ (∃ fr' cs', Ring w' b g m fr' 0 cs') ∧ Fr [b, g] w w' := by
  have hmo := h.most
  have hm := h.room
  have H0 := Lib.hid h
  clear h
  go_enter Try.func51, Try.ntmps51
  go_wp2
  go_loopw [3] (fun v wr => ∃ (k fr' : Nat) (cs' : List Int), k ≤ n ∧ v = .int .i64 k ∧ Ring wr b g m fr' (n - k) cs' ∧ Fr [b, g] w wr) (fun v _ => n - (intOf v).toNat)
  case atStart => exact ⟨0, fr, cs, Nat.zero_le _, rfl, H0.out, Fr.refl _ _⟩
  case round =>
    obtain ⟨k, fr', cs', hk, rfl, hR, hF⟩ := hrel
    have HR := Lib.hid hR
    have HF := Lib.hid hF
    clear hR hF H0
    by_cases c : k = n
    · subst c
      have h2 := (Lib.hid (HR.out.top.cell_at (o := 2) rfl))
      have e0 : k - k = 0 := by omega
      rw [e0] at h2
      go_wp2_with (first | (go_at_call 43; refine (pop_none b _ _ (.inr ⟨rfl, h2.out⟩)).mono ?_; rintro e w' ⟨rfl, rfl⟩))
      go_ret
      refine ⟨rfl, ⟨fr', cs', ?_⟩, HF.out⟩
      have := HR.out; rw [e0] at this; exact this
    · obtain ⟨d, hd⟩ : ∃ d, n - k = d + 1 := ⟨n - k - 1, by omega⟩
      rw [hd] at HR
      have hlt : k < n := by omega
      clear c
      have HD := Lib.hid hd
      clear hd
      go_wp2_with (first | (go_at_call 43; refine (pop_some b g m fr' d cs' _ HR.out).mono ?_; rintro e w1 ⟨rfl, hR1, hF1⟩; have HR1 := Lib.hid hR1; have HF1 := Lib.hid (HF.out.same hF1); clear hR1 hF1))
      go_roundw
      case rel => exact ⟨k + 1, _, _, by omega, by go_num, by have := HR1.out; rw [show n - (k + 1) = d by have := HD.out; omega]; exact this, HF1.out⟩
      case measure => simp [intOf]; omega
theorem info_int : (Try.prog.info? 3).map (fun i => (i.zero, i.size, i.bytes)) = some (some (.int .i64 0), 1, 8) := by kernel_rfl
theorem made_int (w : World) (n : Nat) : (w.alloc (.cells (madeCells (Value.int .i64 0).cells (n * 1)).toList.toArray 3)) = w.alloc (.cells (List.replicate n (Value.int .i64 0)).toArray 3) := by
  have e : (Value.int .i64 0).cells = #[Value.int .i64 0] := rfl
  rw [e, Nat.mul_one, toList_madeCells_one]
theorem new_any (room : Int) (n : Nat) (hn : (n : Int) = min (max room 1) 1024) (w : World) :
    Calls Try.prog 41 #[.int .i64 room] w fun e w' => e = .returned (.pointer (some ⟨w.heap.size + 1, 0, none⟩)) ∧ Ring w' (w.heap.size + 1) w.heap.size n 0 0 (List.replicate n 0) ∧ Fr [] w w' := by
  obtain ⟨i0, hi, hz0, hz1, hz2⟩ := info_parts info_int
  have hn1 : 1 ≤ n ∧ n ≤ 1024 := by omega
  have hm : n ≤ maxLen := by unfold maxLen; omega
  have HN := Lib.hid hn
  clear hn
  have fin : ∀ W : World, W = (w.alloc (.cells (Array.replicate n (Value.int .i64 0)) 3)).alloc (.cells #[.slice (some ⟨w.heap.size, 0, none⟩) n n, .int .i64 0, .int .i64 0] 117) →
      Ring W (w.heap.size + 1) w.heap.size n 0 0 (List.replicate n 0) ∧ Fr [] w W := by
    intro W hW
    rw [← List.toArray_replicate] at hW
    refine ⟨⟨?_, ?_, by simp, by omega, by omega, by omega, by omega⟩, ?_⟩
    · have := Blk.new (w.alloc (.cells (List.replicate n (Value.int .i64 0)).toArray 3)) [.slice (some ⟨w.heap.size, 0, none⟩) n n, .int .i64 0, .int .i64 0] 117
      rw [World.size_alloc] at this
      rw [hW]; exact this
    · rw [hW, List.map_replicate]; exact (Blk.new w _ _).alloc _
    · rw [hW]; exact ((Fr.refl _ _).alloc _).alloc _
  have FIN := Lib.hid fin
  clear fin
  go_enter Try.func41, Try.ntmps41
  go_wp2_with (first | (at_make; refine wpList_make_blk _ rfl _ _ _ rfl 3 i0 (.int .i64 0) 1 8 Try.underlying35 hi hz0 hz1 hz2 .i64 .i64 _ _ n rfl rfl (by rw [imin_eq, imax_eq]; exact HN.out.symm) (by rw [imin_eq, imax_eq]; exact HN.out.symm) (by omega) hm ?_; rw [made_int]))
  go_ret
  exact ⟨rfl, FIN.out _ rfl⟩

theorem awake_any (w : World) : Calls Try.prog 50 #[] w fun e w' => e = .returned (.bool true) ∧ Fr [] w w' := by
  go_enter Try.func50, Try.ntmps50
  go_wp2_with fail
  refine (new_any 1 1 (by omega) w).mono ?_
  rintro e w1 ⟨rfl, R1, F1⟩
  obtain ⟨p, hp⟩ : ∃ p, p = w.heap.size + 1 := ⟨_, rfl⟩
  obtain ⟨q, hq⟩ : ∃ q, q = w.heap.size := ⟨_, rfl⟩
  rw [← hp, ← hq] at R1
  rw [← hp]
  have HP := Lib.hid hp
  have HQ := Lib.hid hq
  have F1' := Lib.hid F1
  clear hp hq F1
  go_wp2_with fail
  refine (push_room p q 1 0 0 _ 7 w1 R1 (by omega)).mono ?_
  rintro e w2 ⟨rfl, R2, F2⟩
  go_wp2_with fail
  refine (push_full p q 1 0 1 _ 8 w2 R2 rfl).mono ?_
  rintro e w3 ⟨rfl, rfl⟩
  go_wp2_with fail
  refine (pop_some p q 1 0 0 _ w2 R2).mono ?_
  rintro e w4 ⟨rfl, R3, F3⟩
  have h2 := R3.top.cell_at (o := 2) rfl
  go_wp2_with (first | (go_at_call 46; refine (len_any p 0 _ h2).mono ?_; rintro e w' ⟨rfl, rfl⟩))
  go_ret
  have hS : ∀ b ∈ [p, q], b ∈ ([] : List Nat) ∨ w.heap.size ≤ b := by
    intro b hb
    have := HP.out
    have := HQ.out
    simp at hb
    right; omega
  exact ⟨rfl, (F1'.out.trans F2 hS).trans F3 hS⟩
end Go.Proofs.Ytcnoaflojojfkaa.Fifo
