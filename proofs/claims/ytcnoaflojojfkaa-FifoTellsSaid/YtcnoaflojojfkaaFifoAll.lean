/- All of a ring of numbers: what a loop over it is handed. No condition. -/
import Derived.Test.YtcnoaflojojfkaaRange
import Derived.Test.YtcnoaflojojfkaaFifo
namespace Go.Proofs.Ytcnoaflojojfkaa.Fifo
open Go.RowKit Go.Shelf
set_option linter.unusedVariables false
set_option linter.unusedSimpArgs false
set_option maxRecDepth 100000
attribute [local go_sem] Oper.semAt_some

theorem Ring.kept {B : Nat} {S : List Nat} {w w1 : World} {b g m fr n : Nat} {cs : List Int} (h : Ring w b g m fr n cs) (hf : Kept B S w w1) (hb : b < B ∧ b ∉ S) (hg : g < B ∧ g ∉ S) : Ring w1 b g m fr n cs :=
  ⟨h.top.kept hf hb.1 hb.2, h.row.kept hf hg.1 hg.2, h.len, h.room, h.from_lt, h.most, h.ne⟩

theorem all_any (b : Nat) (w : World) : Calls Try.prog 52 #[.pointer (some ⟨b, 0, none⟩)] w fun e w' =>
    e = .returned (.func (.func 80) #[] #[.pointer (some ⟨w.heap.size, 0, none⟩)]) ∧ w' = w.alloc (.cells #[.pointer (some ⟨b, 0, none⟩)] 69) := by
  go_enter Try.func52, Try.ntmps52
  go_wp2
  go_ret
  exact ⟨rfl, rfl⟩

set_option maxHeartbeats 2000000 in
theorem all_stops (b g m fr n B H : Nat) (St : List Nat) (cs : List Int) (w : World) (h : Ring w b g m fr n cs) (hB : Blk w B [.pointer (some ⟨b, 0, none⟩)] 69)
    (hb : b < H ∧ b ∉ St) (hg : g < H ∧ g ∉ St) (hBH : B < H ∧ B ∉ St) :
    SeqStopsK Fence.wide 8 Try.prog 80 #[.pointer (some ⟨B, 0, none⟩)] (fun x : Int => #[.int .i64 x]) (Kept H St)
      (fun xs => xs = things cs m fr n) (fun pre => pre <+: things cs m fr n) n w := by
  intro l J Jx W hW hJ hJx hY h0
  have hR0 : Ring W b g m fr n cs := h.fr (S := []) ⟨hW.os, hW.tape, hW.output, hW.size, fun k hk _ => hW.block k hk⟩ (by simp) (by simp)
  have hB0 : Blk W B [.pointer (some ⟨b, 0, none⟩)] 69 := (hW.block B hB.lt).trans hB
  clear h hB hW
  have hY := Lib.hid hY
  have HR0 := Lib.hid hR0
  have HB0 := Lib.hid hB0
  have hn := hR0.most
  have hm := hR0.room
  have hfr := hR0.from_lt
  have q0 := hR0.top.cell_at (o := 0) rfl
  have q1 := hR0.top.cell_at (o := 1) rfl
  have q2 := hR0.top.cell_at (o := 2) rfl
  have qB := hB0.cell_at (o := 0) rfl
  clear hR0 hB0
  refine callsIn_of_wp Try.func80 rfl trivial ?_ rfl
  simp only [Try.ntmps80, List.size_toArray, List.length_cons, List.length_nil, Nat.reduceAdd, Nat.reduceSub, Array.replicate_succ, Array.replicate_zero, List.push_toArray, List.append_toArray, List.nil_append, List.cons_append]
  refine wpIn_wide.2 ?_
  go_wp2_with (first | (go_at_call 46; refine (len_any b n _ (by exact q2)).mono ?_; rintro e w' ⟨rfl, rfl⟩))
  go_loopw [6] (fun v wr => ∃ i : Nat, i ≤ n ∧ v = .int .i64 i ∧ Kept H St W wr ∧ J ((things cs m fr n).take i) wr) (fun v _ => n - (intOf v).toNat)
  case atStart => exact ⟨0, Nat.zero_le _, rfl, Kept.refl _ _ _, h0⟩
  case round =>
    obtain ⟨i, hi, rfl, hK, hJs⟩ := hrel
    have HK := Lib.hid hK
    have HJs := Lib.hid hJs
    clear hK hJs
    by_cases hin : i < n
    · have hRr := HR0.out.kept HK.out hb hg
      have hBr := HB0.out.kept HK.out hBH.1 hBH.2
      have c0 := hRr.top.cell_at (o := 0) rfl
      have c1 := hRr.top.cell_at (o := 1) rfl
      have cB := hBr.cell_at (o := 0) rfl
      have hz : ¬ m = 0 := by omega
      have hcx : (fr + i) % m < cs.length := by rw [hRr.len]; exact Nat.mod_lt _ (by omega)
      have hcell : wr.cell? ⟨g, (fr + i) % m, none⟩ = some (.int .i64 (cs.getD ((fr + i) % m) 0)) := hRr.row.cell_at (by simp [hcx])
      have hw : IntKind.i64.wrap ((fr : Int) + i) = (fr : Int) + i := IntWalk.i64_in _ (by omega)
      obtain ⟨k, hk⟩ : ∃ k, (fr + i) % m = k := ⟨_, rfl⟩
      have hkm : k < m := by rw [← hk]; exact Nat.mod_lt _ (by omega)
      have htm : ((fr : Int) + i).tmod m = (k : Int) := by
        rw [Int.tmod_eq_emod_of_nonneg (by omega), ← hk]; simp
      have hget := things_get cs m fr n i hin
      rw [hk] at hcell hget
      generalize cs.getD k 0 = y at hcell hget
      clear hk
      have htk : (things cs m fr n).take (i + 1) = (things cs m fr n).take i ++ [y] := by rw [List.take_add_one, hget]; rfl
      have HT := Lib.hid htk
      clear htk hget hRr hBr hcx q0 q1 q2 qB
      have HJd := Lib.hid (hJ _ _ wr.drew none HJs.out ⟨rfl, rfl, rfl, Nat.le_refl _, fun _ _ _ => rfl⟩ (fun _ e => by cases e))
      obtain ⟨fn, tmps, assign, body, hy, hR⟩ := hY.out _ y wr.drew HJd.out (by rw [List.length_take, things_len]; omega)
      have HR := Lib.hid (hR.mono (R' := fun e W' => ∃ bb : Bool, e = .returned (.bool bb) ∧ ((bb = true ∧ J ((things cs m fr n).take i ++ [y]) W' ∧ Kept H St wr W') ∨ (bb = false ∧ Jx ((things cs m fr n).take i ++ [y]) W')))
        (fun e W' h => by
          rcases h with ⟨rfl, h1, h2⟩ | ⟨rfl, h1⟩
          · exact ⟨true, rfl, .inl ⟨rfl, h1, ⟨h2.os, h2.tape, h2.output, h2.size, h2.block⟩⟩⟩
          · exact ⟨false, rfl, .inr ⟨rfl, h1⟩⟩))
      clear hR
      go_upto_region 3 with (fail)
      refine (wpIn_wide (n := 8)).1 ?_
      refine wpIn_region_still_tail 19 (by kernel_rfl) (by kernel_rfl) ?_
      simp only [List.take_succ_cons, List.take_zero, List.drop_succ_cons, List.drop_zero]
      repeat still_step
      refine wpStill_nil ?_
      gi_wp2
      refine HR.out.mono ?_
      rintro e W' ⟨bb, rfl, hh⟩
      have HH := Lib.hid hh
      clear hh
      gi_wp2
      rcases HH.out with ⟨rfl, hJ', hK'⟩ | ⟨rfl, hJx'⟩
      · have HJ' := Lib.hid hJ'
        have HK' := Lib.hid (HK.out.trans hK')
        clear hJ' hK' HH HR hy
        go_wp2
        go_roundw
        case rel => exact ⟨i + 1, by omega, by go_num, HK'.out, by rw [HT.out]; exact HJ'.out⟩
        case measure => simp [intOf]; omega
      · have HJx' := Lib.hid hJx'
        clear hJx' HH HR hy
        go_wp2
        refine bodyPost_ret (results_none rfl _ _ _) rfl ?_
        exact ⟨⟨_, rfl⟩, .inr ⟨_, ⟨(things cs m fr n).drop (i + 1), by rw [← HT.out, List.take_append_drop]⟩, HJx'.out⟩⟩
    · obtain rfl : i = n := by omega
      go_wp2
      go_end0
      exact ⟨⟨_, rfl⟩, .inl ⟨_, rfl, by have := HJs.out; rwa [List.take_of_length_le (by rw [things_len]; omega)] at this⟩⟩
end Go.Proofs.Ytcnoaflojojfkaa.Fifo
