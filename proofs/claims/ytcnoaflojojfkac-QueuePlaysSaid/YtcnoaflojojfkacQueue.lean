/- A queue of numbers: what each method of queue.Queue[int] does to it, in memory. No condition. -/
import Derived.Test.YtcnoaflojojfkacFifoC
import Derived.OwnWalk
import Derived.Deep.RegionHeld3
namespace Go.Proofs.Ytcnoaflojojfkac.Queue
open Go.RowKit Go.Proofs.Ytcnoaflojojfkac.Fifo
set_option linter.unusedVariables false
set_option linter.unusedSimpArgs false
set_option maxRecDepth 100000

structure Qu (w : World) (b p g m fr n : Nat) (cs : List Int) (mo pu ta fu : Nat) (cl : Bool) : Prop where
  top : Blk w b [.pointer (some ⟨p, 0, none⟩), .int .i64 mo, .int .i64 pu, .int .i64 ta, .int .i64 fu, .bool cl] 134
  ring : Ring w p g m fr n cs
  ne : b ≠ p ∧ b ≠ g
theorem Qu.fr {S : List Nat} {w w1 : World} {b p g m fr n : Nat} {cs : List Int} {mo pu ta fu : Nat} {cl : Bool} (h : Qu w b p g m fr n cs mo pu ta fu cl) (hf : Fr S w w1) (hb : b ∉ S) (hp : p ∉ S) (hg : g ∉ S) : Qu w1 b p g m fr n cs mo pu ta fu cl :=
  ⟨h.top.fr hf hb, h.ring.fr hf hp hg, h.ne⟩

theorem len_nil (w : World) : Calls Try.prog 32 #[.pointer none] w fun e w' => e = .returned (.int .i64 0) ∧ w = w' := by
  go_enter Try.func32, Try.ntmps32
  go_wp2_with fail
  go_ret
  exact ⟨rfl, rfl⟩
theorem room_nil (w : World) : Calls Try.prog 33 #[.pointer none] w fun e w' => e = .returned (.int .i64 0) ∧ w = w' := by
  go_enter Try.func33, Try.ntmps33
  go_wp2_with fail
  go_ret
  exact ⟨rfl, rfl⟩
theorem most_nil (w : World) : Calls Try.prog 34 #[.pointer none] w fun e w' => e = .returned (.int .i64 0) ∧ w = w' := by
  go_enter Try.func34, Try.ntmps34
  go_wp2_with fail
  go_ret
  exact ⟨rfl, rfl⟩
theorem closed_nil (w : World) : Calls Try.prog 35 #[.pointer none] w fun e w' => e = .returned (.bool true) ∧ w = w' := by
  go_enter Try.func35, Try.ntmps35
  go_wp2_with fail
  go_ret
  exact ⟨rfl, rfl⟩
theorem canPut_nil (w : World) : Calls Try.prog 27 #[.pointer none] w fun e w' => e = .returned (.bool false) ∧ w = w' := by
  go_enter Try.func27, Try.ntmps27
  go_wp2_with fail
  go_ret
  exact ⟨rfl, rfl⟩
theorem canTake_nil (w : World) : Calls Try.prog 29 #[.pointer none] w fun e w' => e = .returned (.bool false) ∧ w = w' := by
  go_enter Try.func29, Try.ntmps29
  go_wp2_with (first | (go_at_call 32; refine (len_nil _).mono ?_; rintro e w' ⟨rfl, rfl⟩))
  go_ret
  exact ⟨rfl, rfl⟩
theorem done_nil (w : World) : Calls Try.prog 36 #[.pointer none] w fun e w' => e = .returned (.bool true) ∧ w = w' := by
  go_enter Try.func36, Try.ntmps36
  go_wp2_with (first | (go_at_call 32; refine (len_nil _).mono ?_; rintro e w' ⟨rfl, rfl⟩) | (go_at_call 35; refine (closed_nil _).mono ?_; rintro e w' ⟨rfl, rfl⟩))
  go_ret
  exact ⟨rfl, rfl⟩
theorem put_nil (x : Int) (w : World) : Calls Try.prog 28 #[.pointer none, .int .i64 x] w fun e w' => e = .returned (.int .i64 9) ∧ w = w' := by
  go_enter Try.func28, Try.ntmps28
  go_wp2_with fail
  go_ret
  exact ⟨rfl, rfl⟩
theorem take_nil (w : World) : Calls Try.prog 30 #[.pointer none] w fun e w' => e = .returned (.tuple #[.int .i64 0, .int .i64 9]) ∧ w = w' := by
  go_enter Try.func30, Try.ntmps30
  go_wp2_with fail
  go_ret2
  exact ⟨rfl, rfl⟩
theorem counts_nil (w : World) : Calls Try.prog 31 #[.pointer none] w fun e w' => e = .returned (.tuple #[.int .i64 0, .int .i64 0, .int .i64 0]) ∧ w = w' := by
  go_enter Try.func31, Try.ntmps31
  go_wp2_with fail
  go_ret3
  exact ⟨rfl, rfl⟩
theorem close_nil (w : World) : Calls Try.prog 26 #[.pointer none] w fun e w' => e = .returned (.tuple #[]) ∧ w = w' := by
  go_enter Try.func26, Try.ntmps26
  go_wp2
  go_end0
  exact ⟨rfl, rfl⟩
theorem len_any (b p n : Nat) (w : World) (h0 : w.cell? ⟨b, 0, none⟩ = some (.pointer (some ⟨p, 0, none⟩))) (h2 : w.cell? ⟨p, 2, none⟩ = some (.int .i64 n)) :
    Calls Try.prog 32 #[.pointer (some ⟨b, 0, none⟩)] w fun e w' => e = .returned (.int .i64 n) ∧ w = w' := by
  go_enter Try.func32, Try.ntmps32
  go_wp2_with (first | (go_at_call 85; refine (Fifo.len_any p n _ (by exact h2)).mono ?_; rintro e w' ⟨rfl, rfl⟩))
  go_ret
  exact ⟨rfl, rfl⟩
theorem room_any (b p m c : Nat) (a : Option Addr) (w : World) (h0 : w.cell? ⟨b, 0, none⟩ = some (.pointer (some ⟨p, 0, none⟩))) (h2 : w.cell? ⟨p, 0, none⟩ = some (.slice a m c)) :
    Calls Try.prog 33 #[.pointer (some ⟨b, 0, none⟩)] w fun e w' => e = .returned (.int .i64 m) ∧ w = w' := by
  go_enter Try.func33, Try.ntmps33
  go_wp2_with (first | (go_at_call 87; refine (Fifo.room_any p c m a _ (by exact h2)).mono ?_; rintro e w' ⟨rfl, rfl⟩))
  go_ret
  exact ⟨rfl, rfl⟩
theorem most_any (b : Nat) (mo : Nat) (w : World) (h1 : w.cell? ⟨b, 1, none⟩ = some (.int .i64 mo)) :
    Calls Try.prog 34 #[.pointer (some ⟨b, 0, none⟩)] w fun e w' => e = .returned (.int .i64 mo) ∧ w = w' := by
  go_enter Try.func34, Try.ntmps34
  go_wp2
  go_ret
  exact ⟨rfl, rfl⟩
theorem closed_any (b : Nat) (cl : Bool) (w : World) (h5 : w.cell? ⟨b, 5, none⟩ = some (.bool cl)) :
    Calls Try.prog 35 #[.pointer (some ⟨b, 0, none⟩)] w fun e w' => e = .returned (.bool cl) ∧ w = w' := by
  go_enter Try.func35, Try.ntmps35
  go_wp2
  go_ret
  exact ⟨rfl, rfl⟩
theorem counts_any (b pu ta fu : Nat) (w : World) (h2 : w.cell? ⟨b, 2, none⟩ = some (.int .i64 pu)) (h3 : w.cell? ⟨b, 3, none⟩ = some (.int .i64 ta)) (h4 : w.cell? ⟨b, 4, none⟩ = some (.int .i64 fu)) :
    Calls Try.prog 31 #[.pointer (some ⟨b, 0, none⟩)] w fun e w' => e = .returned (.tuple #[.int .i64 pu, .int .i64 ta, .int .i64 fu]) ∧ ∃ k, w' = w.drewN k := by
  go_enter Try.func31, Try.ntmps31
  go_wp2
  go_quiet (fail)
  go_wp2
  go_ret3
  exact ⟨rfl, _, rfl⟩
theorem canPut_any (b p m n : Nat) (c : Nat) (a : Option Addr) (cl : Bool) (r : Bool) (hr : r = (!cl && !decide (n = m))) (w : World) (h0 : w.cell? ⟨b, 0, none⟩ = some (.pointer (some ⟨p, 0, none⟩))) (h5 : w.cell? ⟨b, 5, none⟩ = some (.bool cl)) (hp0 : w.cell? ⟨p, 0, none⟩ = some (.slice a m c)) (hp2 : w.cell? ⟨p, 2, none⟩ = some (.int .i64 n)) :
    Calls Try.prog 27 #[.pointer (some ⟨b, 0, none⟩)] w fun e w' => e = .returned (.bool r) ∧ w = w' := by
  cases cl with
  | true =>
    subst hr
    go_enter Try.func27, Try.ntmps27
    go_wp2
    go_ret
    exact ⟨rfl, rfl⟩
  | false =>
    obtain ⟨d, hd⟩ : ∃ d, d = decide (n = m) := ⟨_, rfl⟩
    rw [← hd] at hr
    subst hr
    have HD := Lib.hid hd
    clear hd
    go_enter Try.func27, Try.ntmps27
    go_wp2_with (first | (go_at_call 83; refine (Fifo.full_any p c m n a d HD.out _ (by exact hp0) (by exact hp2)).mono ?_; rintro e w' ⟨rfl, rfl⟩))
    go_ret
    exact ⟨ret_bool (by simp), rfl⟩
theorem canTake_any (b p n : Nat) (r : Bool) (hr : r = decide (0 < n)) (w : World) (h0 : w.cell? ⟨b, 0, none⟩ = some (.pointer (some ⟨p, 0, none⟩))) (h2 : w.cell? ⟨p, 2, none⟩ = some (.int .i64 n)) :
    Calls Try.prog 29 #[.pointer (some ⟨b, 0, none⟩)] w fun e w' => e = .returned (.bool r) ∧ w = w' := by
  have HR := Lib.hid hr
  clear hr
  go_enter Try.func29, Try.ntmps29
  go_wp2_with (first | (go_at_call 32; refine (len_any b p n _ (by exact h0) (by exact h2)).mono ?_; rintro e w' ⟨rfl, rfl⟩))
  go_ret
  exact ⟨ret_bool HR.out.symm, rfl⟩
theorem done_any (b p n : Nat) (cl : Bool) (r : Bool) (hr : r = (cl && decide (n = 0))) (w : World) (h0 : w.cell? ⟨b, 0, none⟩ = some (.pointer (some ⟨p, 0, none⟩))) (h5 : w.cell? ⟨b, 5, none⟩ = some (.bool cl)) (h2 : w.cell? ⟨p, 2, none⟩ = some (.int .i64 n)) :
    Calls Try.prog 36 #[.pointer (some ⟨b, 0, none⟩)] w fun e w' => e = .returned (.bool r) ∧ w = w' := by
  have HR := Lib.hid hr
  clear hr
  cases cl with
  | true =>
    go_enter Try.func36, Try.ntmps36
    go_wp2_with (first | (go_at_call 35; refine (closed_any b true _ h5).mono ?_; rintro e w' ⟨rfl, rfl⟩) | (go_at_call 32; refine (len_any b p n _ (by exact h0) (by exact h2)).mono ?_; rintro e w' ⟨rfl, rfl⟩))
    go_ret
    exact ⟨ret_bool (by rw [HR.out, Bool.true_and, Bool.eq_iff_iff]; simp), rfl⟩
  | false =>
    go_enter Try.func36, Try.ntmps36
    go_wp2_with (first | (go_at_call 35; refine (closed_any b false _ h5).mono ?_; rintro e w' ⟨rfl, rfl⟩))
    go_ret
    exact ⟨ret_bool (by rw [HR.out]; simp), rfl⟩
section
variable (b p g m fr n : Nat) (cs : List Int) (mo pu ta fu : Nat)
theorem close_any (cl : Bool) (w : World) (h : Qu w b p g m fr n cs mo pu ta fu cl) :
    Calls Try.prog 26 #[.pointer (some ⟨b, 0, none⟩)] w fun e w' => e = .returned (.tuple #[]) ∧ Qu w' b p g m fr n cs mo pu ta fu true ∧ Fr [b] w w' := by
  have h5 := h.top.cell_at (o := 5) rfl
  have hfz := h.top.thawed
  have hne := h.ne
  go_enter Try.func26, Try.ntmps26
  go_wp2
  have f2 : Fr [b] w (w.setCell ⟨b, 5, none⟩ (.bool true)) := (Fr.refl _ _).set (by simp) _
  go_end0
  exact ⟨rfl, ⟨h.top.set 5 (.bool true), h.ring.fr f2 (by simp; omega) (by simp; omega), h.ne⟩, f2⟩
theorem put_closed (x : Int) (w : World) (h : Qu w b p g m fr n cs mo pu ta fu true) :
    Calls Try.prog 28 #[.pointer (some ⟨b, 0, none⟩), .int .i64 x] w fun e w' => e = .returned (.int .i64 9) ∧ w = w' := by
  have h5 := h.top.cell_at (o := 5) rfl
  go_enter Try.func28, Try.ntmps28
  go_wp2
  go_ret
  exact ⟨rfl, rfl⟩
theorem put_full (x : Int) (w : World) (h : Qu w b p g m fr n cs mo pu ta fu false) (hn : n = m) (hf : fu ≤ 1000) :
    Calls Try.prog 28 #[.pointer (some ⟨b, 0, none⟩), .int .i64 x] w fun e w' => e = .returned (.int .i64 8) ∧ Qu w' b p g m fr n cs mo pu ta (fu + 1) false ∧ Fr [b] w w' := by
  have h0 := h.top.cell_at (o := 0) rfl
  have h4 := h.top.cell_at (o := 4) rfl
  have h5 := h.top.cell_at (o := 5) rfl
  have hp0 := h.ring.top.cell_at (o := 0) rfl
  have hp2 := h.ring.top.cell_at (o := 2) rfl
  have hfz := h.top.thawed
  have hne := h.ne
  have HN : Hid (true = decide (n = m)) := by rw [hn]; exact Lib.hid (by simp)
  clear hn
  go_enter Try.func28, Try.ntmps28
  go_wp2_with (first | (go_at_call 83; refine (Fifo.full_any p m m n _ true HN.out _ (by exact hp0) (by exact hp2)).mono ?_; rintro e w' ⟨rfl, rfl⟩))
  go_ret
  have f2 : Fr [b] w (w.setCell ⟨b, 4, none⟩ (.int .i64 ((fu : Int) + 1))) := (Fr.refl _ _).set (by simp) _
  exact ⟨rfl, ⟨h.top.set 4 (.int .i64 ((fu : Int) + 1)), h.ring.fr f2 (by simp; omega) (by simp; omega), h.ne⟩, f2⟩
set_option maxHeartbeats 2000000 in
theorem put_room (x : Int) (w : World) (h : Qu w b p g m fr n cs mo pu ta fu false) (hn : n < m) (hf : pu ≤ 1000) :
    Calls Try.prog 28 #[.pointer (some ⟨b, 0, none⟩), .int .i64 x] w fun e w' => e = .returned (.int .i64 0) ∧ Qu w' b p g m fr (n + 1) (cs.set ((fr + n) % m) x) (max mo (n + 1)) (pu + 1) ta fu false ∧ Fr [b, p, g] w w' := by
  have h0 := h.top.cell_at (o := 0) rfl
  have h5 := h.top.cell_at (o := 5) rfl
  have hp0 := h.ring.top.cell_at (o := 0) rfl
  have hp2 := h.ring.top.cell_at (o := 2) rfl
  have hne := h.ne
  have HN : Hid (false = decide (n = m)) := Lib.hid (by rw [eq_comm, decide_eq_false_iff_not]; omega)
  have HPU := Lib.hid (push_room p g m fr n cs x w h.ring hn)
  go_enter Try.func28, Try.ntmps28
  go_wp2_with (first | (go_at_call 83; refine (Fifo.full_any p m m n _ false HN.out _ (by exact hp0) (by exact hp2)).mono ?_; rintro e w' ⟨rfl, rfl⟩) | (go_at_call 84; refine HPU.out.mono ?_; rintro e w1 ⟨rfl, hR1, hF1⟩; have t1 : Blk w1 b _ _ := h.top.fr hF1 (by simp; omega); have h02 := t1.cell_at (o := 0) rfl; have h22 := t1.cell_at (o := 2) rfl; have hfz := t1.thawed))
  obtain ⟨w2, hw2⟩ : ∃ x : World, x = w1.setCell ⟨b, 2, none⟩ (.int .i64 ((pu : Int) + 1)) := ⟨_, rfl⟩
  rw [← hw2]
  have f2 : Fr [b] w1 w2 := by rw [hw2]; exact (Fr.refl _ _).set (by simp) _
  have t2 : Blk w2 b [.pointer (some ⟨p, 0, none⟩), .int .i64 mo, .int .i64 (pu + 1 : Nat), .int .i64 ta, .int .i64 fu, .bool false] 134 := by
    rw [hw2]; exact t1.set 2 (.int .i64 ((pu : Int) + 1))
  have R2 : Ring w2 p g m fr (n + 1) (cs.set ((fr + n) % m) x) := hR1.fr f2 (by simp; omega) (by simp; omega)
  clear hw2 t1 h02 h22 hfz h0 h5 hp0 hp2
  have h0 := t2.cell_at (o := 0) rfl
  have h1 := t2.cell_at (o := 1) rfl
  have h2 := R2.top.cell_at (o := 2) rfl
  have hfz := t2.thawed
  have FIN : Hid (∀ W, W = (w2.setCell ⟨b, 1, none⟩ (.int .i64 (imax mo ((n : Int) + 1)))).drew → Qu W b p g m fr (n + 1) (cs.set ((fr + n) % m) x) (max mo (n + 1)) (pu + 1) ta fu false ∧ Fr [b, p, g] w W) := Lib.hid (by
    intro W hW
    have f3 : Fr [b] w2 W := by rw [hW]; exact ((Fr.refl _ _).set (by simp) _).drew
    have t3 : Blk W b [.pointer (some ⟨p, 0, none⟩), .int .i64 (max mo (n + 1) : Nat), .int .i64 (pu + 1 : Nat), .int .i64 ta, .int .i64 fu, .bool false] 134 := by
      rw [hW, show ((max mo (n + 1) : Nat) : Int) = imax mo ((n : Int) + 1) by rw [imax_eq]; omega]
      exact (t2.set 1 _).drew
    exact ⟨⟨t3, R2.fr f3 (by simp; omega) (by simp; omega), hne⟩, ((hF1.wide (by simp)).same (f2.wide (by simp))).same (f3.wide (by simp))⟩)
  clear t2 f2 R2 hR1 hF1
  have h2' : w2.cell? ⟨p, 2, none⟩ = some (.int .i64 ((n : Int) + 1)) := h2
  go_region_with (first | (go_at_call 85; refine (Fifo.len_any p (n + 1) _ (by exact h2)).mono ?_; rintro e w' ⟨rfl, rfl⟩))
  all_goals go_wp2
  all_goals go_ret
  all_goals exact ⟨rfl, FIN.out _ rfl⟩
theorem take_gone (w : World) (h : Qu w b p g m fr 0 cs mo pu ta fu true) :
    Calls Try.prog 30 #[.pointer (some ⟨b, 0, none⟩)] w fun e w' => e = .returned (.tuple #[.int .i64 0, .int .i64 9]) ∧ w = w' := by
  have h0 := h.top.cell_at (o := 0) rfl
  have h5 := h.top.cell_at (o := 5) rfl
  have h2 := h.ring.top.cell_at (o := 2) rfl
  go_enter Try.func30, Try.ntmps30
  go_wp2_with (first | (go_at_call 32; refine (len_any b p 0 _ (by exact h0) (by exact h2)).mono ?_; rintro e w' ⟨rfl, rfl⟩))
  go_ret2
  exact ⟨rfl, rfl⟩
theorem take_none (w : World) (h : Qu w b p g m fr 0 cs mo pu ta fu false) :
    Calls Try.prog 30 #[.pointer (some ⟨b, 0, none⟩)] w fun e w' => e = .returned (.tuple #[.int .i64 0, .int .i64 14]) ∧ w = w' := by
  have h0 := h.top.cell_at (o := 0) rfl
  have h5 := h.top.cell_at (o := 5) rfl
  have h2 := h.ring.top.cell_at (o := 2) rfl
  go_enter Try.func30, Try.ntmps30
  go_wp2_with (first | (go_at_call 86; refine (pop_none p _ _ (.inr ⟨rfl, h2⟩)).mono ?_; rintro e w' ⟨rfl, rfl⟩))
  go_ret2
  exact ⟨rfl, rfl⟩
theorem take_some (cl : Bool) (w : World) (h : Qu w b p g m fr (n + 1) cs mo pu ta fu cl) (hta : ta ≤ 1000) :
    Calls Try.prog 30 #[.pointer (some ⟨b, 0, none⟩)] w fun e w' => e = .returned (.tuple #[.int .i64 (cs.getD fr 0), .int .i64 0]) ∧ Qu w' b p g m ((fr + 1) % m) n (cs.set fr 0) mo pu (ta + 1) fu cl ∧ Fr [b, p, g] w w' := by
  have h0 := h.top.cell_at (o := 0) rfl
  have h5 := h.top.cell_at (o := 5) rfl
  have h2 := h.ring.top.cell_at (o := 2) rfl
  have hne := h.ne
  have HPO := Lib.hid (pop_some p g m fr n cs w h.ring)
  generalize cs.getD fr 0 = y at HPO ⊢
  have HFIN : Hid (∀ w1 W, Ring w1 p g m ((fr + 1) % m) n (cs.set fr 0) → Fr [p, g] w w1 → Blk w1 b [.pointer (some ⟨p, 0, none⟩), .int .i64 mo, .int .i64 pu, .int .i64 ta, .int .i64 fu, .bool cl] 134 → W = w1.setCell ⟨b, 3, none⟩ (.int .i64 ((ta : Int) + 1)) → Qu W b p g m ((fr + 1) % m) n (cs.set fr 0) mo pu (ta + 1) fu cl ∧ Fr [b, p, g] w W) := Lib.hid (by
    intro w1 W hR1 hF1 t1 hW
    have f3 : Fr [b] w1 W := by rw [hW]; exact (Fr.refl _ _).set (by simp) _
    have t3 : Blk W b [.pointer (some ⟨p, 0, none⟩), .int .i64 mo, .int .i64 pu, .int .i64 (ta + 1 : Nat), .int .i64 fu, .bool cl] 134 := by
      rw [hW]; exact t1.set 3 _
    exact ⟨⟨t3, hR1.fr f3 (by simp; omega) (by simp; omega), hne⟩, (hF1.wide (by simp)).same (f3.wide (by simp))⟩)
  have hn0 : ((n : Int) + 1 == 0) = false := by rw [beq_eq_false_iff_ne]; omega
  have H := Lib.hid h
  clear h
  cases cl with
  | true =>
    go_enter Try.func30, Try.ntmps30
    go_wp2_with (first | (go_at_call 32; refine (len_any b p (n + 1) _ (by exact h0) (by exact h2)).mono ?_; rintro e w' ⟨rfl, rfl⟩) | (go_at_call 86; refine HPO.out.mono ?_; rintro e w1 ⟨rfl, hR1, hF1⟩; have HR1 := Lib.hid hR1; have HF1 := Lib.hid hF1; have HT1 := Lib.hid (H.out.top.fr hF1 (by simp; omega)); have h13 := HT1.out.cell_at (o := 3) rfl; have hfz := HT1.out.thawed; clear hR1 hF1))
    go_ret2
    exact ⟨rfl, HFIN.out w1 _ HR1.out HF1.out HT1.out rfl⟩
  | false =>
    go_enter Try.func30, Try.ntmps30
    go_wp2_with (first | (go_at_call 86; refine HPO.out.mono ?_; rintro e w1 ⟨rfl, hR1, hF1⟩; have HR1 := Lib.hid hR1; have HF1 := Lib.hid hF1; have HT1 := Lib.hid (H.out.top.fr hF1 (by simp; omega)); have h13 := HT1.out.cell_at (o := 3) rfl; have hfz := HT1.out.thawed; clear hR1 hF1))
    go_ret2
    exact ⟨rfl, HFIN.out w1 _ HR1.out HF1.out HT1.out rfl⟩
end
theorem new_any (room : Int) (n : Nat) (hn : (n : Int) = min (max room 1) 1024) (w : World) :
    Calls Try.prog 25 #[.int .i64 room] w fun e w' => ∃ b p g, e = .returned (.pointer (some ⟨b, 0, none⟩)) ∧ Qu w' b p g n 0 0 (List.replicate n 0) 0 0 0 0 false ∧ Fr [] w w' ∧ w.heap.size ≤ b ∧ w.heap.size ≤ p ∧ w.heap.size ≤ g := by
  have HNW := Lib.hid (Fifo.new_any (imin (imax room 1) 1024) n (by rw [imin_eq, imax_eq]; omega) w)
  clear hn
  go_enter Try.func25, Try.ntmps25
  go_wp2_with fail
  refine HNW.out.mono ?_
  rintro e w1 ⟨rfl, R1, F1⟩
  have HR1 := Lib.hid R1
  have HF1 := Lib.hid F1
  clear R1 F1
  go_wp2_with fail
  go_ret
  have s1 := HR1.out.top.lt
  have s2 := HR1.out.row.lt
  have s3 := HF1.out.size
  exact ⟨_, _, _, rfl, ⟨Blk.new w1 [.pointer (some ⟨w.heap.size + 1, 0, none⟩), .int .i64 0, .int .i64 0, .int .i64 0, .int .i64 0, .bool false] _, HR1.out.fr ((Fr.refl [] _).alloc _) (by simp) (by simp), by omega⟩, HF1.out.alloc _, by omega, by omega, by omega⟩

theorem awake_any (w : World) : Calls Try.prog 37 #[] w fun e w' => e = .returned (.bool true) ∧ Fr [] w w' := by
  go_enter Try.func37, Try.ntmps37
  go_wp2_with fail
  refine (new_any 1 1 (by omega) w).mono ?_
  rintro e w1 ⟨b, p, g, rfl, Q1, F1, hb, hp, hg⟩
  have HB := Lib.hid (And.intro hb (And.intro hp hg))
  have HF1 := Lib.hid F1
  clear hb hp hg F1
  go_wp2_with fail
  refine (put_room b p g 1 0 0 _ 0 0 0 0 7 w1 Q1 (by omega) (by omega)).mono ?_
  rintro e w2 ⟨rfl, Q2, F2⟩
  go_wp2_with fail
  refine (put_full b p g 1 0 1 _ (max 0 (0 + 1)) (0 + 1) 0 0 8 w2 Q2 rfl (by omega)).mono ?_
  rintro e w3 ⟨rfl, Q3, F3⟩
  go_wp2_with fail
  refine (take_some b p g 1 0 0 _ (max 0 (0 + 1)) (0 + 1) 0 (0 + 1) false w3 Q3 (by omega)).mono ?_
  rintro e w4 ⟨rfl, Q4, F4⟩
  clear Q1 Q2 Q3 Q4
  go_wp2
  go_ret
  have hS : ∀ x ∈ [b, p, g], x ∈ ([] : List Nat) ∨ w.heap.size ≤ x := by
    intro x hx
    have := HB.out
    simp at hx
    right; omega
  exact ⟨rfl, ((HF1.out.trans F2 hS).trans (F3.wide (by simp)) hS).trans F4 hS⟩
end Go.Proofs.Ytcnoaflojojfkac.Queue
