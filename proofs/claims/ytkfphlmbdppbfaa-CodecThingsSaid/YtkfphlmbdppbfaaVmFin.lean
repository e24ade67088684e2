/- How a function begins and ends; the machine's calls are the model's. No condition. -/
import Derived.Test.YtkfphlmbdppbfaaVmCode
namespace Go.Proofs.Ytkfphlmbdppbfaa.Vm
open Go Go.RowKit
set_option linter.unusedVariables false
set_option linter.unusedSimpArgs false
/-- a result variable, read -/
def resOne (tmps : Array Value) : ResultVar → Sem Value
  | .tmp t => pure (tmps.getD t Go.undef)
  | .cell a t => do loadVar t (← asAddr (tmps.getD a Go.undef))
def oneVal (vals : List Value) : Value := match vals with
  | [v] => v
  | vs => .tuple vs.toArray
theorem results_run {P : Program} {fn : Func} {tmps : Array Value} {w : World} {vals : List Value} (h : (fn.results.toList.mapM (resOne tmps)).run P w = .ok vals w) :
    (results fn tmps).run P w = .ok (oneVal vals) w := by
  have h2 : (fn.results.mapM (resOne tmps)).run P w = .ok vals.toArray w := by
    rw [Array.mapM_eq_mapM_toList, Sem.run_map]
    simp [h]
  have e : results fn tmps = (do let vs ← fn.results.mapM (resOne tmps); pure (if h : vs.size = 1 then vs[0] else .tuple vs)) := by
    unfold results
    congr 1
  rw [e, Sem.run_bind, h2]
  simp only [Result.andThen_ok, Sem.run_pure]
  congr 1
  cases vals with
  | nil => rfl
  | cons v l => cases l with
    | nil => rfl
    | cons v2 l => simp [oneVal]
theorem loadVar_of {P : Program} {t : TypeId} {b o : Nat} {v : Value} {w : World} (h : (Instr.loadAt t (.pointer (some ⟨b, o, none⟩))).run P w = .ok v w) : (loadVar t ⟨b, o, none⟩).run P w = .ok v w := by
  unfold Instr.loadAt Instr.sureAddr at h
  rw [Sem.run_bind] at h
  simpa using h
section
variable {P : Program} {B : Bs} {X : List Nat} {n : Nat} {a : Act} {w : World} {ι : Nat → Nat} {C : CallR}
/-- values in hand, with what is their own -/
structure Has (g : Key → V) (w : World) (M : Mem) (ι : Nat → Nat) (us : List V) (vals : List Value) (G : List Nat) : Prop where
  val : LsR (VR ⟨M, fun k => w.heap[k]?, ι, fun _ => none⟩) us vals G
  nodup : G.Nodup
  facts : ∀ u ∈ us, keys1 u = [] ∧ ∀ b ∈ u.refs, live g b
theorem Has.cons {g : Key → V} {M M' : Mem} {u : V} {us : List V} {v : Value} {vals : List Value} {G1 G2 : List Nat} (h1 : VR ⟨M, fun k => w.heap[k]?, ι, fun _ => none⟩ u v G1) (hn : G1.Nodup) (hk : keys1 u = []) (hr : ∀ b ∈ u.refs, live g b) (hM : Mle M M') (hG : ∀ y ∈ G1, ∀ o, M' y o = M y o)
    (h2 : Has g w M' ι us vals G2) (hd : ∀ y ∈ G2, y ∉ G1) : Has g w M' ι (u :: us) (v :: vals) (G1 ++ G2) where
  val := ⟨G1, G2, rfl, VR_mono (⟨hM, fun y hy => ⟨rfl, hG y hy⟩, fun _ _ => rfl⟩ : En.le ⟨M, fun k => w.heap[k]?, ι, fun _ => none⟩ ⟨M', fun k => w.heap[k]?, ι, fun _ => none⟩ u.refs G1) (fun q hq => by rw [hk] at hq; cases hq) h1, h2.val⟩
  nodup := List.nodup_append.2 ⟨hn, h2.nodup, fun y hy z hz e => hd z hz (e ▸ hy)⟩
  facts := fun x hx => by
    rcases List.mem_cons.1 hx with e | e
    · rw [e]; exact ⟨hk, hr⟩
    · exact h2.facts x e
theorem resM_sound {tab : List Row} (hT : tabOk P tab tab = true) : ∀ (l : List ResultVar) {k : List V → WS → RM (List V × WS)} {g : Key → V} {M : Mem} {Gs : Key → List Nat} {X : List Nat} {rs : List Key} {out : List V × WS}
    (hs : Sim B X g n a w M ι Gs) (hr : Run C g (resM tab l k) rs out),
    ∃ (us : List V) (vals : List Value) (ws1 : WS) (M' : Mem) (Gs' : Key → List Nat) (G : List Nat) (rs' : List Key), Sim B (G ++ X) (gputs g ws1) n a w M' ι Gs' ∧ Mle M M' ∧ Run C (gputs g ws1) (k us ws1) rs' out ∧ Has g w M' ι us vals G ∧ (∀ y ∈ G, y ∉ X) ∧
      (∀ k, isUndef (gputs g ws1 k) = isUndef (g k)) ∧ (∀ y ∈ X, ∀ o, M' y o = M y o) ∧ (l.mapM (resOne a.tmps)).run P w = .ok vals w
  | [], k, g, M, Gs, X, rs, out, hs, hr => ⟨[], [], [], M, Gs, [], rs, hs, Mle.refl _, hr, ⟨rfl, List.nodup_nil, (fun u hu => by cases hu)⟩, (fun y hy => by cases hy), fun _ => rfl, fun _ _ _ => rfl, by simp⟩
  | q :: l, k, g, M, Gs, X, rs, out, hs, hr => by
    -- one value, moved out of a place; then the others
    have hone : ∀ {key : Key} {x : Value} {rs : List Key}, valAt a (fun k => w.heap[k]?) ι key = some x → VR (enOf g a (fun k => w.heap[k]?) M ι) (g key) x (Gs key) → (resOne a.tmps q).run P w = .ok x w →
        Run C g (RM.guard (sure (g key)) ((moveAt (some key) (g key)).bind fun u => over u.2 (resM tab l fun vs ws => k (u.1 :: vs) (u.2 ++ ws)))) rs out →
        ∃ (us : List V) (vals : List Value) (ws1 : WS) (M' : Mem) (Gs' : Key → List Nat) (G : List Nat) (rs' : List Key), Sim B (G ++ X) (gputs g ws1) n a w M' ι Gs' ∧ Mle M M' ∧ Run C (gputs g ws1) (k us ws1) rs' out ∧ Has g w M' ι us vals G ∧ (∀ y ∈ G, y ∉ X) ∧
          (∀ k, isUndef (gputs g ws1 k) = isUndef (g k)) ∧ (∀ y ∈ X, ∀ o, M' y o = M y o) ∧ ((q :: l).mapM (resOne a.tmps)).run P w = .ok vals w := by
      intro key x rs hval hV hsem hr
      replace hr := hr.guard_inv; obtain ⟨_, hr⟩ := hr
      replace hr := hr.bind_inv; obtain ⟨_, _, ⟨u, wsA⟩, _, h2, hr⟩ := hr
      replace hr := hr.over_inv
      obtain ⟨Gn, M1, Gs1, k1, k2, k3, k4, k5, k6, k7, k8, k9, k10, k11⟩ := moveAt_sound hs (k := some key) (fun q hq => by cases hq; exact ⟨rfl, hval, rfl⟩) hV (hs.nodup _) (hs.refs _) h2
      obtain ⟨us, vals, ws2, M2, Gs2, G2, rs', i1, i2, i3, i4, i5, i6, i7, i8⟩ := resM_sound hT l k1 hr
      have hl : ∀ b, live g b → live (gputs g wsA) b := fun b hb => by unfold live at hb ⊢; rw [k11]; exact hb
      have hl' : ∀ b, live (gputs g wsA) b → live g b := fun b hb => by unfold live at hb ⊢; rw [k11] at hb; exact hb
      refine ⟨u :: us, x :: vals, wsA ++ ws2, M2, Gs2, Gn ++ G2, rs', ?_, k3.trans i2, by rw [gputs_append]; exact i3, ?_, ?_, fun k => by rw [gputs_append]; exact (i6 k).trans (k11 k), ?_, ?_⟩
      · rw [gputs_append]
        refine i1.less (fun y hy => ?_)
        rcases List.mem_append.1 hy with h | h
        · rcases List.mem_append.1 h with h | h
          · exact List.mem_append_right _ (List.mem_append_left _ h)
          · exact List.mem_append_left _ h
        · exact List.mem_append_right _ (List.mem_append_right _ h)
      · refine Has.cons (k2 _) k5 k7 k10 i2 (fun y hy o => i7 y (List.mem_append_left _ hy) o) ⟨i4.val, i4.nodup, fun u hu => ⟨(i4.facts u hu).1, fun b hb => hl' b ((i4.facts u hu).2 b hb)⟩⟩ (fun y hy h => i5 y hy (List.mem_append_left _ h))
      · intro y hy hX
        rcases List.mem_append.1 hy with h | h
        · obtain ⟨k, hk⟩ := k6 y h
          exact (hs.spare y hX).2.1 k hk
        · exact i5 y h (List.mem_append_right _ hX)
      · intro y hy o
        rw [i7 y (List.mem_append_right _ hy) o]
        exact Classical.byContradiction fun e => by
          obtain ⟨k, hk⟩ := k4 y o e
          exact (hs.spare y hy).2.1 k hk
      · rw [List.mapM_cons, Sem.run_bind, hsem]
        simp [i8]
    cases q with
    | tmp t =>
      replace hr := hr.rd_inv; obtain ⟨_, _, hr⟩ := hr
      exact hone (key := .s t) rfl (hs.slot t) (by simp [resOne]) hr
    | cell ad t =>
      replace hr := hr.rd_inv; obtain ⟨_, _, hr⟩ := hr
      split at hr
      case h_2 => exact hr.fail_inv.elim
      rename_i b off hp
      have hsl := hs.slot ad
      rw [hp] at hsl
      have hptr : a.tmps.getD ad Go.undef = .pointer (some ⟨ι b, off, none⟩) := hsl.1
      replace hr := hr.opt_inv; obtain ⟨r, hrow, hr⟩ := hr
      have hR := rowOk_of hT hrow
      cases ha : r.agg with
      | true =>
        rw [ha] at hr
        obtain ⟨us1, xs, wsA, M1, Gs1, Gn, rs1, i1, i2, i3, i4, i5, i6, i7, i8, i9, i10, i11, i12⟩ := rdCells_sound (mv := true) r.cks.length hs hr
        obtain ⟨us, vals, ws2, M2, Gs2, G2, rs', j1, j2, j3, j4, j5, j6, j7, j8⟩ := resM_sound hT l i1 i3
        have hl' : ∀ b, live (gputs g wsA) b → live g b := fun b hb => by unfold live at hb ⊢; rw [i11] at hb; exact hb
        have hsem : (resOne a.tmps (.cell ad t)).run P w = .ok (.agg xs.toArray) w := by
          have hlen : xs.length = r.cks.length := by rw [← LsR_len i5, i4]
          have := loadVar_of (load_whole (P := P) hR ha hlen (fun j v hv => i8 j v hv))
          simp only [resOne, hptr]
          rw [Sem.run_bind]
          simp [asAddr, this]
        refine ⟨.agg us1 :: us, .agg xs.toArray :: vals, wsA ++ ws2, M2, Gs2, Gn ++ G2, rs', ?_, i2.trans j2, by rw [gputs_append]; exact j3, ?_, ?_, fun k => by rw [gputs_append]; exact (j6 k).trans (i11 k), ?_, ?_⟩
        · rw [gputs_append]
          refine j1.less (fun y hy => ?_)
          rcases List.mem_append.1 hy with h | h
          · rcases List.mem_append.1 h with h | h
            · exact List.mem_append_right _ (List.mem_append_left _ h)
            · exact List.mem_append_left _ h
          · exact List.mem_append_right _ (List.mem_append_right _ h)
        · refine Has.cons (show VR ⟨M1, fun k => w.heap[k]?, ι, fun _ => none⟩ (.agg us1) _ Gn from ⟨xs, rfl, i5⟩) i6 rfl (fun b hb => ?_) j2 (fun y hy o => j7 y (List.mem_append_left _ hy) o) ⟨j4.val, j4.nodup, fun u hu => ⟨(j4.facts u hu).1, fun b hb => hl' b ((j4.facts u hu).2 b hb)⟩⟩ (fun y hy h => j5 y hy (List.mem_append_left _ h))
          obtain ⟨u, hu, hb⟩ := List.mem_flatMap.1 hb
          obtain ⟨x0, G0, hcr⟩ := LsR_mem i5 u hu
          exact i9 u hu b (by rw [CR_refs hcr]; exact hb)
        · intro y hy hX
          rcases List.mem_append.1 hy with h | h
          · exact i7 y h hX
          · exact j5 y h (List.mem_append_right _ hX)
        · intro y hy o
          rw [j7 y (List.mem_append_right _ hy) o]; exact i12 y hy o
        · rw [List.mapM_cons, Sem.run_bind, hsem]
          simp [j8]
      | false =>
        rw [ha] at hr
        replace hr := hr.rd_inv; obtain ⟨_, _, hr⟩ := hr
        have hsure : sure (g (.c b off)) = true := (hr.guard_inv).1
        have hund : isUndef (g (.c b off)) = false := by
          revert hsure
          cases g (.c b off) <;> first | exact fun _ => rfl | exact fun h => nomatch h
        obtain ⟨y, hy, hVy, hcl⟩ := hs.at hund
        have hcell : w.cell? ⟨ι b, off, none⟩ = some y := by
          simp only [valAt] at hy
          unfold World.cell?
          dsimp only
          split at hy
          · rename_i e; rw [e]; exact hy
          · cases hy
        refine hone (key := .c b off) hy hVy ?_ hr
        have := loadVar_of (load_flat (P := P) hR ha hcell)
        simp only [resOne, hptr]
        rw [Sem.run_bind]
        simp [asAddr, this]
end
end Go.Proofs.Ytkfphlmbdppbfaa.Vm
