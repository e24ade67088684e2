/- QueuePlays: whatever is put and taken: what is told, how many there are, and were at most: the walk of the law. No condition. -/
import Derived.Test.YtcnoaflojojfkacQueue
import Derived.Test.YtcnoaflojojfkacBits
namespace Go.Proofs.Ytcnoaflojojfkac.QueuePlays
open Go.RowKit Go.Proofs.Ytcnoaflojojfkac.Fifo Go.Proofs.Ytcnoaflojojfkac.Queue
set_option linter.unusedVariables false
set_option linter.unusedSimpArgs false
set_option maxRecDepth 100000

/-- what holds at the head of each round -/
def Inv (w : World) (n b p g : Nat) (ms : List Int) (a6 : Option Addr) (c6 : Nat) (mo pu ta fu : Nat) (cl : Bool) (wr : World) : Prop :=
  (∃ (fr : Nat) (cs : List Int), Qu wr b p g n fr ms.length cs mo pu ta fu cl ∧ things cs n fr ms.length = ms) ∧ View wr w.heap.size 3 1 (.slice a6 ms.length c6) ms.length (ms.map (Value.int .i64)) ∧
  (∀ k, (Value.slice a6 ms.length c6).ownBlock = some k → k ≠ b ∧ k ≠ p ∧ k ≠ g) ∧ Fr [] w wr ∧ w.heap.size ≤ b ∧ w.heap.size ≤ p ∧ w.heap.size ≤ g
theorem Inv.drewN {w : World} {n b p g : Nat} {ms : List Int} {a6 : Option Addr} {c6 : Nat} {mo pu ta fu : Nat} {cl : Bool} {wr : World} (h : Inv w n b p g ms a6 c6 mo pu ta fu cl wr) (k : Nat) : Inv w n b p g ms a6 c6 mo pu ta fu cl (wr.drewN k) := by
  obtain ⟨⟨fr, cs, hQ, hth⟩, hV, hown, hF, hp⟩ := h
  exact ⟨⟨fr, cs, hQ.fr ((Fr.refl [] _).drewN _) (by simp) (by simp) (by simp), hth⟩, hV.drewN k, hown, hF.drewN k, hp⟩
theorem Inv.put {w : World} {n b p g : Nat} {ms : List Int} {a6 : Option Addr} {c6 : Nat} {mo pu ta fu : Nat} {cl : Bool} {wr w2 w3 : World} (h : Inv w n b p g ms a6 c6 mo pu ta fu cl wr) {fr' : Nat} {cs' : List Int} {ms' : List Int} {a' : Option Addr} {c' : Nat} {mo' pu' ta' fu' : Nat} {cl' : Bool}
    (hQ : Qu w2 b p g n fr' ms'.length cs' mo' pu' ta' fu' cl') (hth : things cs' n fr' ms'.length = ms') (hF : Fr [b, p, g] wr w2)
    (hV : View w3 w.heap.size 3 1 (.slice a' ms'.length c') ms'.length (ms'.map (Value.int .i64))) (hg : w2.grownBy w3 (Value.slice a6 ms.length c6).ownBlock)
    (hat : (Value.slice a' ms'.length c').ownBlock = (Value.slice a6 ms.length c6).ownBlock ∨ ∀ k, (Value.slice a' ms'.length c').ownBlock = some k → w2.heap.size ≤ k) : Inv w n b p g ms' a' c' mo' pu' ta' fu' cl' w3 := by
  obtain ⟨_, hv, hown, hf, hb, hp, hgg⟩ := h
  have h1 := hQ.top.lt
  have h2 := hQ.ring.top.lt
  have h3 := hQ.ring.row.lt
  refine ⟨⟨fr', cs', hQ.fr (Fr.of_grown hg) (fun hm => ?_) (fun hm => ?_) (fun hm => ?_), hth⟩, hV, fun k hk => ?_, (hf.trans hF (fun x hx => .inr (by simp at hx; omega))).grown hg (fun k hk => .inr (hv.lt hk).1), hb, hp, hgg⟩
  · simp at hm; exact (hown b hm).1 rfl
  · simp at hm; exact (hown p hm).2.1 rfl
  · simp at hm; exact (hown g hm).2.2 rfl
  · rcases hat with h | h
    · exact hown k (h ▸ hk)
    · have := h k hk; omega

set_option maxHeartbeats 8000000 in
theorem walk (room : Int) (hroom : (Lit.int .i64 room).wf = true) (zs : List Int) (v1 : Value) {w : World} (hr1 : Reads w 1 v1 zs.length (zs.map (Value.int .i64))) (_hwf : ∀ x ∈ zs, (Lit.int .i64 x).wf = true) (hlen : zs.length * 8 ≤ 140737488351232) :
    Calls Try.prog 6 #[.int .i64 room, v1] w fun e w' => e = .returned (.bool true) ∧ Fr [] w w' := by
  obtain ⟨hl1, a1, c1, rfl, hc1, hcell⟩ := id hr1
  clear hl1
  obtain ⟨n, hn⟩ : ∃ n : Nat, (n : Int) = min (max room 1) 1024 := ⟨(min (max room 1) 1024).toNat, by omega⟩
  have HN := Lib.hid hn
  have hn1 : 1 ≤ n ∧ n ≤ 1024 := by omega
  clear hn
  have HR := Lib.hid hr1
  clear hcell hr1 _hwf hroom
  obtain ⟨i0, hi0, hz0, hz1, hz2⟩ := info_parts Fifo.info_int
  go_enter Try.func6, Try.ntmps6
  go_wp2_with fail
  refine (Queue.new_any room n HN.out w).mono ?_
  rintro e w1 ⟨b, p, g, rfl, Q1, F1, hb, hp, hg⟩
  have HP : Hid (w.heap.size ≤ b ∧ w.heap.size ≤ p ∧ w.heap.size ≤ g) := ⟨hb, hp, hg⟩
  have QIN := Lib.hid Q1
  have FIN := Lib.hid F1
  clear F1 Q1 hb hp hg
  go_upto_block 0 with (fail)
  rw [show imin (imax room 1) 1024 = (n : Int) from by rw [imin_eq, imax_eq]; exact HN.out.symm]
  go_wp2_with fail
  go_loopw [6, 8, 9, 10, 11, 12, 13] (fun v6 v8 v9 v10 v11 v12 v13 wr => ∃ (i : Nat) (ms : List Int) (a6 : Option Addr) (c6 : Nat) (mo pu ta fu : Nat) (cl : Bool), i ≤ zs.length ∧ i ≤ 80 ∧ ms.length ≤ i ∧ mo ≤ i ∧ pu ≤ i ∧ ta ≤ i ∧ fu ≤ i ∧ v6 = .slice a6 ms.length c6 ∧ v8 = .int .i64 mo ∧ v9 = .int .i64 pu ∧ v10 = .int .i64 ta ∧ v11 = .int .i64 fu ∧ v12 = .bool cl ∧ v13 = .int .i64 i ∧ Inv w n b p g ms a6 c6 mo pu ta fu cl wr) (fun _ _ _ _ _ _ v13 _ => zs.length - (intOf v13).toNat)
  case atStart =>
    refine ⟨0, [], some ⟨w1.heap.size, 0, none⟩, 0, 0, 0, 0, 0, false, by omega, by omega, by simp, by omega, by omega, by omega, by omega, rfl, rfl, rfl, rfl, rfl, rfl, rfl, ⟨⟨0, _, QIN.out.fr ((Fr.refl [] _).alloc _) (by simp) (by simp) (by simp), rfl⟩, ?_, ?_, FIN.out.alloc _, HP.out⟩⟩
    · exact View.of_blk (Blk.new w1 [] _) FIN.out.size rfl (by simp)
    · intro k hk
      have h1 := QIN.out.top.lt
      have h2 := QIN.out.ring.top.lt
      have h3 := QIN.out.ring.row.lt
      simp [Value.ownBlock] at hk
      omega
  case round =>
    obtain ⟨i, ms, a6, c6, mo, pu, ta, fu, cl, hi, h80, hmi, hmo, hpu, hta, hfu, rfl, rfl, rfl, rfl, rfl, rfl, rfl, hI⟩ := hrel
    have HI : Hid (Inv w n b p g ms a6 c6 mo pu ta fu cl wr) := hI
    clear hI
    by_cases hlt : i < zs.length ∧ i < 80
    · obtain ⟨hlt, hlt80⟩ := hlt
      have hc8 : decide ((i : Int) < 80) = true := decide_eq_true (by omega)
      obtain ⟨z, hz⟩ : ∃ z, zs[i]? = some z := ⟨zs[i], by simp [hlt]⟩
      obtain ⟨b1, o1, rfl, hcl⟩ : ∃ b o, a1 = some ⟨b, o, none⟩ ∧ w.cell? ⟨b, o + i, none⟩ = some (.int .i64 z) := by
        have hR := HR.out
        obtain ⟨_, a, c, h1, _, h | ⟨b, o, h2, h⟩⟩ := hR
        · rw [List.map_eq_nil_iff] at h; rw [h] at hlt; simp at hlt
        · simp at h1
          exact ⟨b, o, by rw [h1.1, h2], h i _ (by simp [hz])⟩
      clear hz
      have hb1 : b1 < w.heap.size := World.block_lt_of_cell? w _ hcl
      have HW1 : Hid (∀ S wx, Fr S w wx → (∀ b ∈ S, w.heap.size ≤ b) → wx.cell? ⟨b1, o1 + i, none⟩ = some (.int .i64 z)) := fun S wx hf hs => hf.cell hcl (fun hm => by have := hs b1 hm; have : b1 < w.heap.size := hb1; omega)
      clear hcl
      have hcr := HW1.out _ _ HI.out.2.2.2.1 (by simp)
      obtain ⟨⟨fr, cs, hQ, hth⟩, hV, hown, hF, hp⟩ := id HI.out
      have HQ := Lib.hid hQ
      have HTH := Lib.hid hth
      have HV := Lib.hid hV
      have HW := Lib.hid hown
      have HSZ : Hid (w.heap.size ≤ wr.heap.size) := hF.size
      have hmost := hQ.ring.most
      have hBL : b1 ≠ b ∧ b1 ≠ p ∧ b1 ≠ g := by omega
      have q0 := hQ.top.cell_at (o := 0) rfl
      have q5 := hQ.top.cell_at (o := 5) rfl
      have r0 := hQ.ring.top.cell_at (o := 0) rfl
      have r2 := hQ.ring.top.cell_at (o := 2) rfl
      clear hQ hth hV hown hF hp
      by_cases hz31 : (bits .and .i64 z 31 == 31) = true
      · clear q0 q5 r0 r2
        go_upto_region 17 with (fail)
        go_wp2_with fail
        refine (close_any b p g n fr ms.length cs mo pu ta fu cl wr HQ.out).mono ?_
        rintro e w2 ⟨rfl, hQ2, hF2⟩
        have HI' : Hid (Inv w n b p g ms a6 c6 mo pu ta fu true w2) := HI.out.put (w2 := w2) hQ2 HTH.out (hF2.wide (by simp)) (HV.out.fr hF2 (fun k hk => by have := HW.out k hk; simp; omega)) (World.grownBy.refl _ _) (.inl rfl)
        clear hQ2 hF2
        go_upto_region 32 with (fail)

        obtain ⟨⟨fr2, cs2, hQ, hth⟩, hV, hown, hF, hp⟩ := id HI'.out
        have q0 := hQ.top.cell_at (o := 0) rfl
        have q1 := hQ.top.cell_at (o := 1) rfl
        have q2 := hQ.top.cell_at (o := 2) rfl
        have q3 := hQ.top.cell_at (o := 3) rfl
        have q4 := hQ.top.cell_at (o := 4) rfl
        have q5 := hQ.top.cell_at (o := 5) rfl
        have r0 := hQ.ring.top.cell_at (o := 0) rfl
        have r2 := hQ.ring.top.cell_at (o := 2) rfl
        clear hQ hth hV hown hF hp
        obtain ⟨wt, hwt⟩ : ∃ x : World, x = w2 := ⟨_, rfl⟩
        rw [← hwt] at HI' q0 q1 q2 q3 q4 q5 r0 r2 ⊢
        clear hwt
        go_wp2_with (first | (go_at_call 31; refine (counts_any b (pu) (ta) (fu) _ (by exact q2) (by exact q3) (by exact q4)).mono ?_; rintro e wk ⟨rfl, nk, rfl⟩))
        go_wp2_with (first | (go_at_call 32; refine (Queue.len_any b p (ms).length _ (by exact q0) (by exact r2)).mono ?_; rintro e w' ⟨rfl, rfl⟩) | (go_at_call 33; refine (Queue.room_any b p n n _ _ (by exact q0) (by exact r0)).mono ?_; rintro e w' ⟨rfl, rfl⟩) | (go_at_call 34; refine (most_any b (mo) _ (by exact q1)).mono ?_; rintro e w' ⟨rfl, rfl⟩) | (go_at_call 35; refine (closed_any b true _ (by exact q5)).mono ?_; rintro e w' ⟨rfl, rfl⟩) | (go_at_call 36; refine (done_any b p (ms).length true (((ms.length : Nat) : Int) == 0) (by first | rfl | (rw [Bool.true_and, Bool.eq_iff_iff]; simp)) _ (by exact q0) (by exact q5) (by exact r2)).mono ?_; rintro e w' ⟨rfl, rfl⟩))
        go_roundw
        case rel => exact ⟨i + 1, ms, a6, c6, mo, pu, ta, fu, true, by omega, by omega, by first | omega | (simp at *; omega), by first | omega | (simp at *; omega), by omega, by omega, by omega, by first | rfl | simp, by go_num, by go_num, by go_num, by go_num, rfl, by go_num, HI'.out.drewN _⟩
        case measure => simp [intOf]; omega
      have hz31' : (bits .and .i64 z 31 == 31) = false := by simpa using hz31
      clear hz31
      by_cases hb : 0 < bits .and .i64 z 3
      · cases cl with
        | true =>
          have HCP : Hid (false = (!true && !decide (ms.length = n))) := Lib.hid (by simp)
          go_upto_region 32 with (first | (go_at_call 27; refine (canPut_any b p n ms.length _ _ true false (HCP.out) _ (by exact q0) (by exact q5) (by exact r0) (by exact r2)).mono ?_; rintro e w' ⟨rfl, rfl⟩) | (go_at_call 28; refine (put_closed b p g n fr ms.length cs mo pu ta fu _ _ HQ.out).mono ?_; rintro e w' ⟨rfl, rfl⟩))
          have HI' := Lib.hid HI.out
          clear q0 q5 r0 r2

          obtain ⟨⟨fr2, cs2, hQ, hth⟩, hV, hown, hF, hp⟩ := id HI'.out
          have q0 := hQ.top.cell_at (o := 0) rfl
          have q1 := hQ.top.cell_at (o := 1) rfl
          have q2 := hQ.top.cell_at (o := 2) rfl
          have q3 := hQ.top.cell_at (o := 3) rfl
          have q4 := hQ.top.cell_at (o := 4) rfl
          have q5 := hQ.top.cell_at (o := 5) rfl
          have r0 := hQ.ring.top.cell_at (o := 0) rfl
          have r2 := hQ.ring.top.cell_at (o := 2) rfl
          clear hQ hth hV hown hF hp
          obtain ⟨wt, hwt⟩ : ∃ x : World, x = wr := ⟨_, rfl⟩
          rw [← hwt] at HI' q0 q1 q2 q3 q4 q5 r0 r2 ⊢
          clear hwt
          go_wp2_with (first | (go_at_call 31; refine (counts_any b (pu) (ta) (fu) _ (by exact q2) (by exact q3) (by exact q4)).mono ?_; rintro e wk ⟨rfl, nk, rfl⟩))
          go_wp2_with (first | (go_at_call 32; refine (Queue.len_any b p (ms).length _ (by exact q0) (by exact r2)).mono ?_; rintro e w' ⟨rfl, rfl⟩) | (go_at_call 33; refine (Queue.room_any b p n n _ _ (by exact q0) (by exact r0)).mono ?_; rintro e w' ⟨rfl, rfl⟩) | (go_at_call 34; refine (most_any b (mo) _ (by exact q1)).mono ?_; rintro e w' ⟨rfl, rfl⟩) | (go_at_call 35; refine (closed_any b true _ (by exact q5)).mono ?_; rintro e w' ⟨rfl, rfl⟩) | (go_at_call 36; refine (done_any b p (ms).length true (((ms.length : Nat) : Int) == 0) (by first | rfl | (rw [Bool.true_and, Bool.eq_iff_iff]; simp)) _ (by exact q0) (by exact q5) (by exact r2)).mono ?_; rintro e w' ⟨rfl, rfl⟩))
          go_roundw
          case rel => exact ⟨i + 1, ms, a6, c6, mo, pu, ta, fu, true, by omega, by omega, by first | omega | (simp at *; omega), by first | omega | (simp at *; omega), by omega, by omega, by omega, by first | rfl | simp, by go_num, by go_num, by go_num, by go_num, rfl, by go_num, HI'.out.drewN _⟩
          case measure => simp [intOf]; omega
        | false =>
          by_cases hfull : ms.length = n
          · have HCP : Hid (false = (!false && !decide (ms.length = n))) := Lib.hid (by simp [hfull])
            have hge : decide (n ≤ ms.length) = true := decide_eq_true (by omega)
            have HFU := Lib.hid hfull
            clear hfull
            go_upto_region 32 with (first | (go_at_call 27; refine (canPut_any b p n ms.length _ _ false false (HCP.out) _ (by exact q0) (by exact q5) (by exact r0) (by exact r2)).mono ?_; rintro e w' ⟨rfl, rfl⟩) | (go_at_call 28; refine (put_full b p g n fr ms.length cs mo pu ta fu _ _ HQ.out HFU.out (by omega)).mono ?_; rintro e w2 ⟨rfl, hQ2, hF2⟩; have HQ2 := Lib.hid hQ2; have HF2 := Lib.hid hF2; clear hQ2 hF2))
            have HI' : Hid (Inv w n b p g ms a6 c6 mo pu ta (fu + 1) false w2) := HI.out.put (w2 := w2) HQ2.out HTH.out (HF2.out.wide (by simp)) (HV.out.fr HF2.out (fun k hk => by have := HW.out k hk; simp; omega)) (World.grownBy.refl _ _) (.inl rfl)
            clear q0 q5 r0 r2

            obtain ⟨⟨fr2, cs2, hQ, hth⟩, hV, hown, hF, hp⟩ := id HI'.out
            have q0 := hQ.top.cell_at (o := 0) rfl
            have q1 := hQ.top.cell_at (o := 1) rfl
            have q2 := hQ.top.cell_at (o := 2) rfl
            have q3 := hQ.top.cell_at (o := 3) rfl
            have q4 := hQ.top.cell_at (o := 4) rfl
            have q5 := hQ.top.cell_at (o := 5) rfl
            have r0 := hQ.ring.top.cell_at (o := 0) rfl
            have r2 := hQ.ring.top.cell_at (o := 2) rfl
            clear hQ hth hV hown hF hp
            obtain ⟨wt, hwt⟩ : ∃ x : World, x = w2 := ⟨_, rfl⟩
            rw [← hwt] at HI' q0 q1 q2 q3 q4 q5 r0 r2 ⊢
            clear hwt
            go_wp2_with (first | (go_at_call 31; refine (counts_any b (pu) (ta) ((fu + 1)) _ (by exact q2) (by exact q3) (by exact q4)).mono ?_; rintro e wk ⟨rfl, nk, rfl⟩))
            go_wp2_with (first | (go_at_call 32; refine (Queue.len_any b p (ms).length _ (by exact q0) (by exact r2)).mono ?_; rintro e w' ⟨rfl, rfl⟩) | (go_at_call 33; refine (Queue.room_any b p n n _ _ (by exact q0) (by exact r0)).mono ?_; rintro e w' ⟨rfl, rfl⟩) | (go_at_call 34; refine (most_any b (mo) _ (by exact q1)).mono ?_; rintro e w' ⟨rfl, rfl⟩) | (go_at_call 35; refine (closed_any b false _ (by exact q5)).mono ?_; rintro e w' ⟨rfl, rfl⟩) | (go_at_call 36; refine (done_any b p (ms).length false false (by first | rfl | (rw [Bool.true_and, Bool.eq_iff_iff]; simp)) _ (by exact q0) (by exact q5) (by exact r2)).mono ?_; rintro e w' ⟨rfl, rfl⟩))
            go_roundw
            case rel => exact ⟨i + 1, ms, a6, c6, mo, pu, ta, (fu + 1), false, by omega, by omega, by first | omega | (simp at *; omega), by first | omega | (simp at *; omega), by omega, by omega, by omega, by first | rfl | simp, by go_num, by go_num, by go_num, by go_num, rfl, by go_num, HI'.out.drewN _⟩
            case measure => simp [intOf]; omega
          · have HCP : Hid (true = (!false && !decide (ms.length = n))) := Lib.hid (by simp [hfull])
            have hroom : ms.length < n := by omega
            have hge : decide (n ≤ ms.length) = false := decide_eq_false (by omega)
            clear hfull
            go_upto_region 32 with (first | (go_at_call 27; refine (canPut_any b p n ms.length _ _ false true (HCP.out) _ (by exact q0) (by exact q5) (by exact r0) (by exact r2)).mono ?_; rintro e w' ⟨rfl, rfl⟩) | (go_at_call 28; refine (put_room b p g n fr ms.length cs mo pu ta fu _ _ HQ.out hroom (by omega)).mono ?_; rintro e w2 ⟨rfl, hQ2, hF2⟩; have HQ2 := Lib.hid hQ2; have HF2 := Lib.hid hF2; have hcr2 := hF2.cell hcr (by have := hBL; simp; omega); clear hQ2 hF2) | (at_builtin; refine wpList_append_view _ rfl _ _ 47 rfl w.heap.size 3 i0 (.int .i64 0) 1 8 Try.underlying47 hi0 hz0 hz1 hz2 rfl _ _ ms.length _ rfl ((HV.out.fr HF2.out (fun k hk => by have := HW.out k hk; simp; omega)).alloc _) _ 1 [.int .i64 z] rfl (reads_one _ _ _) (by simp [Value.oneCell']) (by unfold maxLen; omega) (by omega) (by have := HSZ.out; have := HF2.out.size; simp; omega) ?_; intro a' c' w' hv' hg' hat'; have HV' := Lib.hid hv'; have HG' := Lib.hid hg'; have HAT := Lib.hid hat'; clear hv' hg' hat'))
            have hll : (ms ++ [z]).length = ms.length + 1 := by simp
            have HI' : Hid (Inv w n b p g (ms ++ [z]) a' c' (max mo (ms.length + 1)) (pu + 1) ta fu false w') := by
              refine HI.out.put (w2 := w2.alloc (.cells #[.int .i64 z] 3)) (fr' := fr) (cs' := cs.set ((fr + ms.length) % n) z) ?_ ?_ (HF2.out.alloc _) ?_ HG'.out ?_
              · have := HQ2.out.fr ((Fr.refl [] _).alloc (.cells #[.int .i64 z] 3)) (by simp) (by simp) (by simp)
                rw [hll]; exact this
              · rw [List.length_append, List.length_singleton, things_push cs n fr ms.length z HQ.out.ring.len (by omega) hroom, HTH.out]
              · simpa using HV'.out
              · rcases HAT.out with h | h
                · left; simpa using h
                · right; intro k hk; rw [List.length_append, List.length_singleton, h] at hk; simp at hk; simp; omega
            clear q0 q5 r0 r2 hcr2
            rw [show imax (mo : Int) ((ms.length : Int) + 1) = ((max mo (ms.length + 1) : Nat) : Int) from by rw [imax_eq]; omega]
            obtain ⟨mo', hmo'⟩ : ∃ x, max mo (ms.length + 1) = x := ⟨_, rfl⟩
            rw [hmo'] at HI' ⊢
            have hmo2 : mo' ≤ i + 1 := by omega
            clear hmo'

            obtain ⟨⟨fr2, cs2, hQ, hth⟩, hV, hown, hF, hp⟩ := id HI'.out
            have q0 := hQ.top.cell_at (o := 0) rfl
            have q1 := hQ.top.cell_at (o := 1) rfl
            have q2 := hQ.top.cell_at (o := 2) rfl
            have q3 := hQ.top.cell_at (o := 3) rfl
            have q4 := hQ.top.cell_at (o := 4) rfl
            have q5 := hQ.top.cell_at (o := 5) rfl
            have r0 := hQ.ring.top.cell_at (o := 0) rfl
            have r2 := hQ.ring.top.cell_at (o := 2) rfl
            clear hQ hth hV hown hF hp
            obtain ⟨wt, hwt⟩ : ∃ x : World, x = w' := ⟨_, rfl⟩
            rw [← hwt] at HI' q0 q1 q2 q3 q4 q5 r0 r2 ⊢
            clear hwt
            go_wp2_with (first | (go_at_call 31; refine (counts_any b ((pu + 1)) (ta) (fu) _ (by exact q2) (by exact q3) (by exact q4)).mono ?_; rintro e wk ⟨rfl, nk, rfl⟩))
            go_wp2_with (first | (go_at_call 32; refine (Queue.len_any b p ((ms ++ [z])).length _ (by exact q0) (by exact r2)).mono ?_; rintro e w' ⟨rfl, rfl⟩) | (go_at_call 33; refine (Queue.room_any b p n n _ _ (by exact q0) (by exact r0)).mono ?_; rintro e w' ⟨rfl, rfl⟩) | (go_at_call 34; refine (most_any b (mo') _ (by exact q1)).mono ?_; rintro e w' ⟨rfl, rfl⟩) | (go_at_call 35; refine (closed_any b false _ (by exact q5)).mono ?_; rintro e w' ⟨rfl, rfl⟩) | (go_at_call 36; refine (done_any b p ((ms ++ [z])).length false false (by first | rfl | (rw [Bool.true_and, Bool.eq_iff_iff]; simp)) _ (by exact q0) (by exact q5) (by exact r2)).mono ?_; rintro e w' ⟨rfl, rfl⟩))
            go_roundw
            case rel => exact ⟨i + 1, (ms ++ [z]), a', c', mo', (pu + 1), ta, fu, false, by omega, by omega, by first | omega | (simp at *; omega), by first | omega | (simp at *; omega), by omega, by omega, by omega, by first | rfl | simp, by go_num, by go_num, by go_num, by go_num, rfl, by go_num, HI'.out.drewN _⟩
            case measure => simp [intOf]; omega
      · cases ms with
        | nil =>
          cases cl with
          | true =>
            go_wp2_with (first | (go_at_call 29; refine (canTake_any b p 0 false rfl _ (by exact q0) (by exact r2)).mono ?_; rintro e w' ⟨rfl, rfl⟩) | (go_at_call 30; refine (take_gone b p g n fr cs mo pu ta fu _ HQ.out).mono ?_; rintro e w' ⟨rfl, rfl⟩))
            go_roundw
            case rel => exact ⟨i + 1, [], a6, c6, mo, pu, ta, fu, true, by omega, by omega, by simp, by omega, by omega, by omega, by omega, rfl, rfl, rfl, rfl, rfl, rfl, by go_num, HI.out⟩
            case measure => simp [intOf]; omega
          | false =>
            go_wp2_with (first | (go_at_call 29; refine (canTake_any b p 0 false rfl _ (by exact q0) (by exact r2)).mono ?_; rintro e w' ⟨rfl, rfl⟩) | (go_at_call 30; refine (take_none b p g n fr cs mo pu ta fu _ HQ.out).mono ?_; rintro e w' ⟨rfl, rfl⟩))
            go_roundw
            case rel => exact ⟨i + 1, [], a6, c6, mo, pu, ta, fu, false, by omega, by omega, by simp, by omega, by omega, by omega, by omega, rfl, rfl, rfl, rfl, rfl, rfl, by go_num, HI.out⟩
            case measure => simp [intOf]; omega
        | cons m0 rest =>
          have hm0 : Hid (cs.getD fr 0 = m0) := by
            have h := congrArg (fun l : List Int => l[0]?) HTH.out
            simp only [things_get cs n fr (m0 :: rest).length 0 (by simp), List.getElem?_cons_zero, Option.some.injEq, Nat.add_zero, Nat.mod_eq_of_lt HQ.out.ring.from_lt] at h
            exact h
          have HTK := take_some b p g n fr rest.length cs mo pu ta fu cl wr HQ.out (by omega)
          rw [hm0.out] at HTK
          have HTK := Lib.hid HTK
          obtain ⟨_, a, c, h1, _, h | ⟨g6, o6, h2, h⟩⟩ := HV.out.reads
          · simp at h
          simp only [Value.slice.injEq, true_and] at h1
          obtain ⟨rfl, rfl⟩ := h1
          subst h2
          have hc6 : wr.cell? ⟨g6, o6, none⟩ = some (.int .i64 m0) := h 0 _ rfl
          have hG6 : Hid (g6 ≠ b ∧ g6 ≠ p ∧ g6 ≠ g) := HW.out g6 rfl
          have hrl : rest.length ≤ 80 := by simp at hmi; omega
          have hn0 : (((rest.length : Nat) : Int) + 1 == 0) = false := by rw [beq_eq_false_iff_ne]; omega
          clear h
          go_upto_region 32 with (first | (go_at_call 29; refine (canTake_any b p (rest.length + 1) true (by simp) _ (by exact q0) (by exact r2)).mono ?_; rintro e w' ⟨rfl, rfl⟩) | (go_at_call 30; refine HTK.out.mono ?_; rintro e w2 ⟨rfl, hQ2, hF2⟩; have HQ2 := Lib.hid hQ2; have HF2 := Lib.hid hF2; have hc62 := hF2.cell hc6 (by have := hG6.out; simp; omega); clear hQ2 hF2) | ((with_reducible refine gate_slice rfl ?_); refine wpList_cut_view _ rfl _ _ 47 rfl w.heap.size 3 i0 1 Try.underlying47 hi0 hz1 _ _ (rest.length + 1) _ rfl (HV.out.fr HF2.out (fun k hk => by have := HW.out k hk; simp; omega)) .i64 1 rfl (by omega) ?_; intro a' c' hv' hat'; have HV' := Lib.hid hv'; have HAT := Lib.hid hat'; clear hv' hat'))
          have HI' : Hid (Inv w n b p g rest a' c' mo pu (ta + 1) fu cl w2) := by
            refine HI.out.put (w2 := w2) HQ2.out ?_ HF2.out (by simpa using HV'.out) (World.grownBy.refl _ _) (.inl (by simpa using HAT.out))
            rw [things_pop cs n fr rest.length 0 HQ.out.ring.len (by omega) (by simp at hmost; omega) HQ.out.ring.from_lt, show rest.length + 1 = (m0 :: rest).length from rfl, HTH.out]; rfl
          clear q0 q5 r0 r2 hc6 hc62 hn0
          have hrl2 : rest.length ≤ i := by simp at hmi; omega
          clear hmi hmost
          cases cl with
          | true =>
            obtain ⟨⟨fr2, cs2, hQ, hth⟩, hV, hown, hF, hp⟩ := id HI'.out
            have q0 := hQ.top.cell_at (o := 0) rfl
            have q1 := hQ.top.cell_at (o := 1) rfl
            have q2 := hQ.top.cell_at (o := 2) rfl
            have q3 := hQ.top.cell_at (o := 3) rfl
            have q4 := hQ.top.cell_at (o := 4) rfl
            have q5 := hQ.top.cell_at (o := 5) rfl
            have r0 := hQ.ring.top.cell_at (o := 0) rfl
            have r2 := hQ.ring.top.cell_at (o := 2) rfl
            clear hQ hth hV hown hF hp
            obtain ⟨wt, hwt⟩ : ∃ x : World, x = w2 := ⟨_, rfl⟩
            rw [← hwt] at HI' q0 q1 q2 q3 q4 q5 r0 r2 ⊢
            clear hwt
            go_wp2_with (first | (go_at_call 31; refine (counts_any b (pu) ((ta + 1)) (fu) _ (by exact q2) (by exact q3) (by exact q4)).mono ?_; rintro e wk ⟨rfl, nk, rfl⟩))
            go_wp2_with (first | (go_at_call 32; refine (Queue.len_any b p (rest).length _ (by exact q0) (by exact r2)).mono ?_; rintro e w' ⟨rfl, rfl⟩) | (go_at_call 33; refine (Queue.room_any b p n n _ _ (by exact q0) (by exact r0)).mono ?_; rintro e w' ⟨rfl, rfl⟩) | (go_at_call 34; refine (most_any b (mo) _ (by exact q1)).mono ?_; rintro e w' ⟨rfl, rfl⟩) | (go_at_call 35; refine (closed_any b true _ (by exact q5)).mono ?_; rintro e w' ⟨rfl, rfl⟩) | (go_at_call 36; refine (done_any b p (rest).length true (((rest.length : Nat) : Int) == 0) (by first | rfl | (rw [Bool.true_and, Bool.eq_iff_iff]; simp)) _ (by exact q0) (by exact q5) (by exact r2)).mono ?_; rintro e w' ⟨rfl, rfl⟩))
            go_roundw
            case rel => exact ⟨i + 1, rest, a', c', mo, pu, (ta + 1), fu, true, by omega, by omega, by first | omega | (simp at *; omega), by first | omega | (simp at *; omega), by omega, by omega, by omega, by first | rfl | simp, by go_num, by go_num, by go_num, by go_num, rfl, by go_num, HI'.out.drewN _⟩
            case measure => simp [intOf]; omega
          | false =>
            obtain ⟨⟨fr2, cs2, hQ, hth⟩, hV, hown, hF, hp⟩ := id HI'.out
            have q0 := hQ.top.cell_at (o := 0) rfl
            have q1 := hQ.top.cell_at (o := 1) rfl
            have q2 := hQ.top.cell_at (o := 2) rfl
            have q3 := hQ.top.cell_at (o := 3) rfl
            have q4 := hQ.top.cell_at (o := 4) rfl
            have q5 := hQ.top.cell_at (o := 5) rfl
            have r0 := hQ.ring.top.cell_at (o := 0) rfl
            have r2 := hQ.ring.top.cell_at (o := 2) rfl
            clear hQ hth hV hown hF hp
            obtain ⟨wt, hwt⟩ : ∃ x : World, x = w2 := ⟨_, rfl⟩
            rw [← hwt] at HI' q0 q1 q2 q3 q4 q5 r0 r2 ⊢
            clear hwt
            go_wp2_with (first | (go_at_call 31; refine (counts_any b (pu) ((ta + 1)) (fu) _ (by exact q2) (by exact q3) (by exact q4)).mono ?_; rintro e wk ⟨rfl, nk, rfl⟩))
            go_wp2_with (first | (go_at_call 32; refine (Queue.len_any b p (rest).length _ (by exact q0) (by exact r2)).mono ?_; rintro e w' ⟨rfl, rfl⟩) | (go_at_call 33; refine (Queue.room_any b p n n _ _ (by exact q0) (by exact r0)).mono ?_; rintro e w' ⟨rfl, rfl⟩) | (go_at_call 34; refine (most_any b (mo) _ (by exact q1)).mono ?_; rintro e w' ⟨rfl, rfl⟩) | (go_at_call 35; refine (closed_any b false _ (by exact q5)).mono ?_; rintro e w' ⟨rfl, rfl⟩) | (go_at_call 36; refine (done_any b p (rest).length false false (by first | rfl | (rw [Bool.true_and, Bool.eq_iff_iff]; simp)) _ (by exact q0) (by exact q5) (by exact r2)).mono ?_; rintro e w' ⟨rfl, rfl⟩))
            go_roundw
            case rel => exact ⟨i + 1, rest, a', c', mo, pu, (ta + 1), fu, false, by omega, by omega, by first | omega | (simp at *; omega), by first | omega | (simp at *; omega), by omega, by omega, by omega, by first | rfl | simp, by go_num, by go_num, by go_num, by go_num, rfl, by go_num, HI'.out.drewN _⟩
            case measure => simp [intOf]; omega
    · have HF := Lib.hid HI.out.2.2.2.1
      by_cases hi2 : i < zs.length
      · have hc8 : decide ((i : Int) < 80) = false := decide_eq_false (by omega)
        clear hlt
        go_wp2_with (first | (go_at_call 37; refine (awake_any _).mono ?_; rintro e w2 ⟨rfl, hF2⟩))
        go_ret
        exact ⟨rfl, HF.out.trans0 hF2⟩
      · clear hlt
        go_wp2_with (first | (go_at_call 37; refine (awake_any _).mono ?_; rintro e w2 ⟨rfl, hF2⟩))
        go_ret
        exact ⟨rfl, HF.out.trans0 hF2⟩
end Go.Proofs.Ytcnoaflojojfkac.QueuePlays
