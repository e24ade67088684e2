/- How a state of the machine goes on with the memory that it stands for: one step each. No condition. -/
import Derived.Test.YtkfphlmbdppbfaaVmSim
namespace Go.Proofs.Ytkfphlmbdppbfaa.Vm
open Go Go.RowKit
set_option linter.unusedVariables false
set_option linter.unusedSimpArgs false

theorem Key.eqb_self : ∀ k : Key, Key.eqb k k = true
  | .s i => Nat.beq_refl i
  | .c b j => by simp [Key.eqb]
def gput (g : Key → V) (k : Key) (v : V) : Key → V := fun k' => if Key.eqb k k' = true then v else g k'
def upd (Gs : Key → List Nat) (k : Key) (G : List Nat) : Key → List Nat := fun k' => if Key.eqb k k' = true then G else Gs k'
theorem gput_self (g : Key → V) (k : Key) (v : V) : gput g k v k = v := by unfold gput; rw [Key.eqb_self, if_pos rfl]
theorem gput_ne {g : Key → V} {k k' : Key} (v : V) (h : k ≠ k') : gput g k v k' = g k' := by
  unfold gput; rw [if_neg (fun e => h (Key.eqb_eq e))]
theorem upd_self (Gs : Key → List Nat) (k : Key) (G : List Nat) : upd Gs k G k = G := by unfold upd; rw [Key.eqb_self, if_pos rfl]
theorem upd_ne {Gs : Key → List Nat} {k k' : Key} (G : List Nat) (h : k ≠ k') : upd Gs k G k' = Gs k' := by
  unfold upd; rw [if_neg (fun e => h (Key.eqb_eq e))]
def gputs (g : Key → V) : WS → Key → V
  | [] => g
  | (k, v) :: r => gputs (gput g k v) r
theorem nth_sput : ∀ (l : List V) (i : Nat) (v : V) (j : Nat), nth (sput l i v) j = if i = j then v else nth l j
  | [], 0, v, 0 => rfl
  | [], 0, v, j + 1 => by simp [sput, nth]
  | [], i + 1, v, 0 => by simp [sput, nth]
  | [], i + 1, v, j + 1 => by simp [sput, nth, nth_sput [] i v j]
  | _ :: l, 0, v, 0 => rfl
  | _ :: l, 0, v, j + 1 => by simp [sput, nth]
  | _ :: l, i + 1, v, 0 => by simp [sput, nth]
  | _ :: l, i + 1, v, j + 1 => by simp [sput, nth, nth_sput l i v j]
theorem Tr.get_sing {α : Type} (d x : α) : ∀ (f i j : Nat), i ≤ f → Tr.get d (Tr.sing d f i x) j = if i = j then x else d
  | f, 0, 0, _ => by cases f <;> rfl
  | f, 0, j + 1, _ => by
    rw [if_neg (by omega)]
    cases f <;> (simp only [Tr.sing, Tr.get]; split <;> rfl)
  | 0, i + 1, _, h => by omega
  | f + 1, i + 1, 0, _ => by
    rw [if_neg (by omega)]
    simp only [Tr.sing]; split <;> rfl
  | f + 1, i + 1, j + 1, h => by
    simp only [Tr.sing]
    split
    · rename_i h1
      simp only [Tr.get]
      split
      · rename_i h2
        rw [Tr.get_sing d x f (i / 2) (j / 2) (by omega)]
        by_cases e : i = j
        · rw [if_pos (by rw [e]), if_pos (by rw [e])]
        · rw [if_neg (by omega), if_neg (by omega)]
      · rename_i n h2
        rw [if_neg (by omega)]
    · rename_i n h1
      simp only [Tr.get]
      split
      · rename_i h2
        rw [if_neg (by omega)]
      · rename_i m h2
        rw [Tr.get_sing d x f (i / 2) (j / 2) (by omega)]
        by_cases e : i = j
        · rw [if_pos (by rw [e]), if_pos (by rw [e])]
        · rw [if_neg (by omega), if_neg (by omega)]
theorem Tr.get_put {α : Type} (d x : α) : ∀ (t : Tr α) (i j : Nat), Tr.get d (Tr.put d t i x) j = if i = j then x else Tr.get d t j
  | .e, i, j => Tr.get_sing d x i i j (Nat.le_refl _)
  | .n v l r, 0, 0 => rfl
  | .n v l r, 0, j + 1 => by rw [if_neg (by omega)]; rfl
  | .n v l r, i + 1, 0 => by
    rw [if_neg (by omega)]
    simp only [Tr.put]; split <;> rfl
  | .n v l r, i + 1, j + 1 => by
    simp only [Tr.put]
    split
    · rename_i h1
      simp only [Tr.get]
      split
      · rename_i h2
        rw [Tr.get_put d x l (i / 2) (j / 2)]
        by_cases e : i = j
        · rw [if_pos (by rw [e]), if_pos (by rw [e])]
        · rw [if_neg (by omega), if_neg (by omega)]
      · rename_i n h2
        rw [if_neg (by omega)]
    · rename_i n h1
      simp only [Tr.get]
      split
      · rename_i h2
        rw [if_neg (by omega)]
      · rename_i m h2
        rw [Tr.get_put d x r (i / 2) (j / 2)]
        by_cases e : i = j
        · rw [if_pos (by rw [e]), if_pos (by rw [e])]
        · rw [if_neg (by omega), if_neg (by omega)]
theorem Tr.get_map {α β : Type} {d : α} {d' : β} : ∀ (f : Nat → α → β) (t : Tr α) (i : Nat), (∀ i, f i d = d') → Tr.get d' (Tr.map f t) i = f i (Tr.get d t i)
  | f, .e, i, h => (h i).symm
  | f, .n v l r, 0, h => rfl
  | f, .n v l r, j + 1, h => by
    simp only [Tr.map, Tr.get]
    split
    · rename_i h1
      rw [Tr.get_map _ l (j / 2) (fun i => h _), show 2 * (j / 2) + 1 = j + 1 by omega]
    · rename_i n h1
      rw [Tr.get_map _ r (j / 2) (fun i => h _), show 2 * (j / 2) + 2 = j + 1 by omega]
theorem Tr.get_of {α : Type} (d : α) : ∀ (g : Nat → α) (q i : Nat), Tr.get d (Tr.of g q) i = if i + 1 < 2 ^ q then g i else d
  | g, 0, i => by rw [if_neg (by omega)]; rfl
  | g, q + 1, 0 => by
    rw [if_pos (by have := Nat.one_le_two_pow (n := q); rw [Nat.pow_succ]; omega)]; rfl
  | g, q + 1, j + 1 => by
    simp only [Tr.of, Tr.get]
    have hp : 2 ^ (q + 1) = 2 * 2 ^ q := by rw [Nat.pow_succ]; omega
    split
    · rename_i h1
      rw [Tr.get_of d _ q (j / 2), show 2 * (j / 2) + 1 = j + 1 by omega]
      by_cases e : j / 2 + 1 < 2 ^ q
      · rw [if_pos e, if_pos (by omega)]
      · rw [if_neg e, if_neg (by omega)]
    · rename_i m h1
      rw [Tr.get_of d _ q (j / 2), show 2 * (j / 2) + 2 = j + 1 by omega]
      by_cases e : j / 2 + 1 < 2 ^ q
      · rw [if_pos e, if_pos (by omega)]
      · rw [if_neg e, if_neg (by omega)]
/-- so many places there are at most -/
def Tr.cap {α : Type} : Tr α → Nat
  | .e => 0
  | .n _ l r => 2 * (l.cap + r.cap) + 3
theorem Tr.get_out {α : Type} (d : α) : ∀ (t : Tr α) (i : Nat), t.cap ≤ i → Tr.get d t i = d
  | .e, _, _ => rfl
  | .n v l r, 0, h => by simp only [Tr.cap] at h; omega
  | .n v l r, j + 1, h => by
    simp only [Tr.cap] at h
    simp only [Tr.get]
    split
    · exact Tr.get_out d l _ (by omega)
    · exact Tr.get_out d r _ (by omega)
theorem get_put (σ : St) (k : Key) (v : V) : (σ.put k v).get = gput σ.get k v := by
  funext k'
  by_cases h : k = k'
  · subst h
    rw [gput_self]
    cases k with
    | s i => show Tr.get .undef (Tr.put .undef σ.slots i v) i = v; rw [Tr.get_put, if_pos rfl]
    | c b j => show nth (Tr.get [] (Tr.put [] σ.boxes b (sput (Tr.get [] σ.boxes b) j v)) b) j = v; rw [Tr.get_put, if_pos rfl, nth_sput, if_pos rfl]
  · rw [gput_ne _ h]
    cases k with
    | s i => cases k' with
      | s i' => show Tr.get .undef (Tr.put .undef σ.slots i v) i' = Tr.get .undef σ.slots i'; rw [Tr.get_put, if_neg (fun e => h (by rw [e]))]
      | c b' j' => rfl
    | c b j => cases k' with
      | s i' => rfl
      | c b' j' =>
        show nth (Tr.get [] (Tr.put [] σ.boxes b (sput (Tr.get [] σ.boxes b) j v)) b') j' = nth (Tr.get [] σ.boxes b') j'
        rw [Tr.get_put]
        by_cases hb : b = b'
        · subst hb
          rw [if_pos rfl, nth_sput, if_neg (fun e => h (by rw [e]))]
        · rw [if_neg hb]
theorem get_puts : ∀ (ws : WS) (σ : St), (σ.puts ws).get = gputs σ.get ws
  | [], _ => rfl
  | (k, v) :: r, σ => by
    show ((σ.put k v).puts r).get = gputs (gput σ.get k v) r
    rw [get_puts r, get_put]
theorem n_puts : ∀ (ws : WS) (σ : St), (σ.puts ws).n = σ.n
  | [], _ => rfl
  | (.s i, v) :: r, σ => n_puts r _
  | (.c b j, v) :: r, σ => n_puts r _
theorem gputs_append : ∀ (ws ws' : WS) (g : Key → V), gputs g (ws ++ ws') = gputs (gputs g ws) ws'
  | [], _, _ => rfl
  | (k, v) :: r, ws', g => gputs_append r ws' (gput g k v)

theorem getD_put_self (a : Act) (d : Nat) (v : Value) (h : d < a.tmps.size) : (a.put (some d) v).tmps.getD d Go.undef = v := by
  simp [Act.put, h]
theorem getD_put_ne (a : Act) (d i : Nat) (v : Value) (h : d ≠ i) : (a.put (some d) v).tmps.getD i Go.undef = a.tmps.getD i Go.undef := by
  simp [Act.put, Array.getElem?_setIfInBounds_ne h]
theorem valAt_put_ne (a : Act) (h : Nat → Option Obj) (ι : Nat → Nat) (d : Nat) (v : Value) (k : Key) (hk : Key.s d ≠ k) : valAt (a.put (some d) v) h ι k = valAt a h ι k := by
  cases k with
  | s i => show some _ = some _; rw [getD_put_ne _ _ _ _ (fun e => hk (by rw [e]))]
  | c b j => rfl

section
variable {B : Bs} {X X' : List Nat} {g : Key → V} {n : Nat} {a : Act} {w : World} {M : Mem} {ι : Nat → Nat} {Gs : Key → List Nat}
/-- the values are read against no more than before -/
theorem le_of {g g' : Key → V} {a a' : Act} {h : Nat → Option Obj} {M : Mem} {ι : Nat → Nat} {r G : List Nat} : En.le (enOf g a h M ι) (enOf g' a' h M ι) r G :=
  ⟨Mle.refl _, fun _ _ => ⟨rfl, fun _ => rfl⟩, fun _ _ => rfl⟩
theorem Sim.less (hs : Sim B X g n a w M ι Gs) (hX : ∀ x ∈ X', x ∈ X) : Sim B X' g n a w M ι Gs :=
  { hs with spare := fun x hx => hs.spare x (hX x hx), mineX := fun x hx => hs.mineX x (hX x hx) }
/-- a slot takes a value -/
theorem Sim.setSlot (hs : Sim B X g n a w M ι Gs) {d : Nat} {V : V} {v : Value} {Gn : List Nat} (hd : d < n) (hV : VR (enOf g a (fun k => w.heap[k]?) M ι) V v Gn)
    (hold : isOld V = false) (hr : ∀ b ∈ V.refs, live g b) (hG : ∀ x ∈ Gn, x ∈ X) (hn : Gn.Nodup) (hX : ∀ x ∈ X', x ∈ X ∧ x ∉ Gn) (hu : V = .undef → Gn = []) :
    Sim B X' (gput g (.s d) V) n (a.put (some d) v) w M ι (upd Gs (.s d) Gn) := by
  have hc : ∀ b j, gput g (.s d) V (.c b j) = g (.c b j) := fun b j => gput_ne _ (by intro e; cases e)
  have hcG : ∀ b j, upd Gs (.s d) Gn (.c b j) = Gs (.c b j) := fun b j => upd_ne _ (by intro e; cases e)
  have hl : ∀ b, live (gput g (.s d) V) b ↔ live g b := fun b => by unfold live; rw [hc]
  have ho : ∀ k v', oldAt (gput g (.s d) V) (valAt (a.put (some d) v) (fun k => w.heap[k]?) ι) k = some v' → oldAt g (valAt a (fun k => w.heap[k]?) ι) k = some v' := by
    intro k v' h
    by_cases e : Key.s d = k
    · subst e; unfold oldAt at h; rw [gput_self, hold] at h; cases h
    · unfold oldAt at h ⊢; rw [gput_ne _ e, valAt_put_ne _ _ _ _ _ _ e] at h; exact h
  refine { size := ?_, defers := hs.defers, pin := fun p hp => ⟨(hs.pin p hp).1, fun h => (hs.pin p hp).2 ((hl p.1).1 h)⟩, fr := hs.fr, mle := hs.mle, mo := hs.mo, mineG := ?mineG, mineB := fun b hb => hs.mineB b ((hl b).1 hb), mineX := fun x hx => hs.mineX x (hX x hx).1, out := ?_, slot := ?_, box := ?_, gone := ?_, inj := ?_, refs := ?_, stable := hs.stable, apart := ?_, free := ?_, disj := ?_, nodup := ?_, claim := ?_, spare := ?_ }
  case mineG =>
    intro k x hx
    by_cases e : Key.s d = k
    · subst e; rw [upd_self] at hx; exact hs.mineX x (hG x hx)
    · rw [upd_ne _ e] at hx; exact hs.mineG k x hx
  · show (a.tmps.setIfInBounds d v).size = n; rw [Array.size_setIfInBounds]; exact hs.size
  · intro i hi; rw [gput_ne _ (by intro e; cases e; omega)]; exact hs.out i hi
  · intro i
    by_cases e : d = i
    · subst e
      rw [gput_self, upd_self, getD_put_self _ _ _ (by rw [hs.size]; exact hd)]
      exact VR_mono le_of (fun k hk' v' h => ho k v' h) hV
    · have e' : Key.s d ≠ Key.s i := fun h => e (by cases h; rfl)
      rw [gput_ne _ e', upd_ne _ e', getD_put_ne _ _ _ _ e]
      exact VR_mono le_of (fun k _ v' h => ho k v' h) (hs.slot i)
  · intro b hb
    obtain ⟨cs, t, h1, h2⟩ := hs.box b ((hl b).1 hb)
    exact ⟨cs, t, h1, fun j => by rw [hc, hcG]; exact ⟨(h2 j).1, fun v hv => ⟨((h2 j).2 v hv).1, CR_mono le_of ((h2 j).2 v hv).2⟩⟩⟩
  · intro b hb j; rw [hc]; exact hs.gone b (fun h => hb ((hl b).2 h)) j
  · intro b b' hb hb' e; exact hs.inj b b' ((hl b).1 hb) ((hl b').1 hb') e
  · intro k b hb
    rw [hl]
    by_cases e : Key.s d = k
    · subst e; rw [gput_self] at hb; exact hr b hb
    · rw [gput_ne _ e] at hb; exact hs.refs k b hb
  · intro b o hb; exact hs.apart b o ((hl b).1 hb)
  · intro k hk
    by_cases e : Key.s d = k
    · subst e; rw [gput_self] at hk; rw [upd_self]; exact hu hk
    · rw [gput_ne _ e] at hk; rw [upd_ne _ e]; exact hs.free k hk
  · intro k k' x hx hx'
    by_cases e : Key.s d = k
    · by_cases e' : Key.s d = k'
      · rw [← e, ← e']
      · subst e; rw [upd_self] at hx; rw [upd_ne _ e'] at hx'
        exact ((hs.spare x (hG x hx)).2.1 k' hx').elim
    · by_cases e' : Key.s d = k'
      · subst e'; rw [upd_self] at hx'; rw [upd_ne _ e] at hx
        exact ((hs.spare x (hG x hx')).2.1 k hx).elim
      · rw [upd_ne _ e] at hx; rw [upd_ne _ e'] at hx'; exact hs.disj k k' x hx hx'
  · intro k
    by_cases e : Key.s d = k
    · subst e; rw [upd_self]; exact hn
    · rw [upd_ne _ e]; exact hs.nodup k
  · intro k x hx
    by_cases e : Key.s d = k
    · subst e; rw [upd_self] at hx
      exact ⟨(hs.spare x (hG x hx)).1, fun b hb => (hs.spare x (hG x hx)).2.2 b ((hl b).1 hb)⟩
    · rw [upd_ne _ e] at hx
      exact ⟨(hs.claim k x hx).1, fun b hb => (hs.claim k x hx).2 b ((hl b).1 hb)⟩
  · intro x hx
    obtain ⟨h1, h2⟩ := hX x hx
    obtain ⟨a1, a2, a3⟩ := hs.spare x h1
    refine ⟨a1, fun k hk => ?_, fun b hb => a3 b ((hl b).1 hb)⟩
    by_cases e : Key.s d = k
    · subst e; rw [upd_self] at hk; exact h2 hk
    · rw [upd_ne _ e] at hk; exact a2 k hk
/-- a place is seen otherwise: what stands there is the same; what is sealed does not change any more -/
theorem Sim.relabel' (hs : Sim B X g n a w M ι Gs) {k : Key} {V : V} {Gn : List Nat} {M' : Mem} (hM : Mle M M') (hM' : ∀ b o, M' b o ≠ M b o → b ∈ Gs k ∨ b ∈ X)
    (hst : ∀ b o v, M' b o = some v → w.cell? ⟨b, o, none⟩ = some v)
    (hV : ∀ v, valAt a (fun k => w.heap[k]?) ι k = some v → VR ⟨M', fun k => w.heap[k]?, ι, fun _ => none⟩ V v Gn)
    (hkeys : keys1 V = []) (hcell : (∃ b j, k = .c b j) → isCell V = true)
    (hold : isOld V = true → isOld (g k) = true ∨ ∀ k', k ∉ keys1 (g k')) (hu : isUndef V = isUndef (g k)) (hr : ∀ b ∈ V.refs, live g b) (hG : ∀ x ∈ Gn, x ∈ Gs k ∨ x ∈ X) (hn : Gn.Nodup) (hX : ∀ x ∈ X', (x ∈ X ∨ x ∈ Gs k) ∧ x ∉ Gn) (hu' : isUndef V = true → Gn = []) :
    Sim B X' (gput g k V) n a w M' ι (upd Gs k Gn) := by
  have hl : ∀ b, live (gput g k V) b ↔ live g b := fun b => by
    unfold live
    by_cases e : k = .c b 0
    · rw [← e, gput_self, hu]
    · rw [gput_ne _ e]
  have hun : ∀ k', isUndef (gput g k V k') = isUndef (g k') := fun k' => by
    by_cases e : k = k'
    · subst e; rw [gput_self, hu]
    · rw [gput_ne _ e]
  have ho : ∀ k0 k', k' ∈ keys1 (g k0) → ∀ v', oldAt (gput g k V) (valAt a (fun k => w.heap[k]?) ι) k' = some v' → oldAt g (valAt a (fun k => w.heap[k]?) ι) k' = some v' := by
    intro k0 k' hk0 v' h
    unfold oldAt at h ⊢
    by_cases e : k = k'
    · subst e
      rw [gput_self] at h
      split at h
      · rename_i h1; rw [if_pos ((hold h1).resolve_right (fun h2 => h2 k0 hk0))]; exact h
      · cases h
    · rw [gput_ne _ e] at h; exact h
  have hMo : ∀ k', k ≠ k' → ∀ x ∈ Gs k', ∀ o, M' x o = M x o := by
    intro k' e x hx o
    by_cases h : M' x o = M x o
    · exact h
    · rcases hM' x o h with h1 | h1
      · exact absurd (hs.disj k k' x h1 hx) e
      · exact absurd hx ((hs.spare x h1).2.1 k')
  have hle : ∀ k', k ≠ k' → ∀ r, En.le (enOf g a (fun k => w.heap[k]?) M ι) (enOf (gput g k V) a (fun k => w.heap[k]?) M' ι) r (Gs k') := fun k' e r =>
    ⟨hM, fun x hx => ⟨rfl, hMo k' e x hx⟩, fun _ _ => rfl⟩
  have hle0 : ∀ r G, En.le ⟨M', fun k => w.heap[k]?, ι, fun _ => none⟩ (enOf (gput g k V) a (fun k => w.heap[k]?) M' ι) r G := fun r G =>
    ⟨Mle.refl _, fun _ _ => ⟨rfl, fun _ => rfl⟩, fun _ _ => rfl⟩
  have hsame : ∀ b o, M' b o ≠ M b o → ∀ b', live g b' → ι b' ≠ b := by
    intro b o h b' hb' e
    rcases hM' b o h with h1 | h1
    · exact (hs.claim k b h1).2 b' hb' e
    · exact (hs.spare b h1).2.2 b' hb' e
  refine { size := hs.size, defers := hs.defers, pin := fun p hp => ⟨(hs.pin p hp).1, fun h => (hs.pin p hp).2 ((hl p.1).1 h)⟩, fr := hs.fr, mle := hs.mle.trans hM, mo := ?mo, mineG := ?mineG, mineB := fun b hb => hs.mineB b ((hl b).1 hb), mineX := ?mineX, out := ?_, slot := ?_, box := ?_, gone := ?_, inj := ?_, refs := ?_, stable := hst, apart := ?_, free := ?_, disj := ?_, nodup := ?_, claim := ?_, spare := ?_ }
  case mo =>
    intro x o hx
    by_cases h : M' x o = M x o
    · rw [h]; exact hs.mo x o hx
    · rcases hM' x o h with h1 | h1
      · exact absurd (hs.mineG k x h1) hx
      · exact absurd (hs.mineX x h1) hx
  case mineG =>
    intro k' x hx
    by_cases e : k = k'
    · subst e; rw [upd_self] at hx
      rcases hG x hx with h | h
      · exact hs.mineG k x h
      · exact hs.mineX x h
    · rw [upd_ne _ e] at hx; exact hs.mineG k' x hx
  case mineX =>
    intro x hx
    rcases (hX x hx).1 with h | h
    · exact hs.mineX x h
    · exact hs.mineG k x h
  · intro i hi
    have := hun (.s i)
    rw [hs.out i hi] at this
    revert this
    cases gput g k V (.s i) <;> simp [isUndef]
  · intro i
    by_cases e : k = .s i
    · subst e
      rw [gput_self, upd_self]
      exact VR_mono (hle0 _ _) (fun q hq => by rw [hkeys] at hq; cases hq) (hV _ rfl)
    · rw [gput_ne _ e, upd_ne _ e]
      exact VR_mono (hle _ e _) (fun q hq v' h => ho (.s i) q hq v' h) (hs.slot i)
  · intro b hb
    obtain ⟨cs, t, h1, h2⟩ := hs.box b ((hl b).1 hb)
    refine ⟨cs, t, h1, fun j => ⟨fun h => (h2 j).1 (by rw [← hun]; exact h), fun v hv => ⟨by rw [hun]; exact ((h2 j).2 v hv).1, ?_⟩⟩⟩
    by_cases e : k = .c b j
    · subst e
      rw [gput_self, upd_self]
      have hv' := hV v (by show (match w.heap[ι b]? with | some (.cells cs _ _) => cs[j]? | _ => none) = some v; rw [h1]; exact hv)
      have hcl := hcell ⟨b, j, rfl⟩
      have : CR ⟨M', fun k => w.heap[k]?, ι, fun _ => none⟩ V v Gn := by
        revert hv' hcl hkeys
        cases V <;> simp [VR, AR, CR, isCell, keys1]
      exact CR_mono (hle0 _ _) this
    · rw [gput_ne _ e, upd_ne _ e]
      exact CR_mono (hle _ e _) ((h2 j).2 v hv).2
  · intro b hb j
    have h1 := hs.gone b (fun h => hb ((hl b).2 h)) j
    have := hun (.c b j)
    rw [h1] at this
    revert this
    cases gput g k V (.c b j) <;> simp [isUndef]
  · intro b b' hb hb' e; exact hs.inj b b' ((hl b).1 hb) ((hl b').1 hb') e
  · intro k' b hb
    rw [hl]
    by_cases e : k = k'
    · subst e; rw [gput_self] at hb; exact hr b hb
    · rw [gput_ne _ e] at hb; exact hs.refs k' b hb
  · intro b o hb
    by_cases h : M' (ι b) o = M (ι b) o
    · rw [h]; exact hs.apart b o ((hl b).1 hb)
    · exact absurd rfl (hsame _ o h b ((hl b).1 hb))
  · intro k' hk'
    by_cases e : k = k'
    · subst e
      rw [upd_self]; rw [gput_self] at hk'; rw [hk'] at hu'; exact hu' rfl
    · rw [gput_ne _ e] at hk'; rw [upd_ne _ e]; exact hs.free k' hk'
  · intro k1 k2 x hx hx'
    by_cases e1 : k = k1
    · by_cases e2 : k = k2
      · rw [← e1, ← e2]
      · subst e1; rw [upd_self] at hx; rw [upd_ne _ e2] at hx'
        rcases hG x hx with h | h
        · exact hs.disj k k2 x h hx'
        · exact ((hs.spare x h).2.1 k2 hx').elim
    · by_cases e2 : k = k2
      · subst e2; rw [upd_self] at hx'; rw [upd_ne _ e1] at hx
        rcases hG x hx' with h | h
        · exact hs.disj k1 k x hx h
        · exact ((hs.spare x h).2.1 k1 hx).elim
      · rw [upd_ne _ e1] at hx; rw [upd_ne _ e2] at hx'; exact hs.disj k1 k2 x hx hx'
  · intro k'
    by_cases e : k = k'
    · subst e; rw [upd_self]; exact hn
    · rw [upd_ne _ e]; exact hs.nodup k'
  · intro k' x hx
    have h1 : x ∈ Gs k' ∨ x ∈ X := by
      by_cases e : k = k'
      · subst e; rw [upd_self] at hx; exact hG x hx
      · rw [upd_ne _ e] at hx; exact .inl hx
    rcases h1 with h1 | h1
    · exact ⟨(hs.claim k' x h1).1, fun b hb => (hs.claim k' x h1).2 b ((hl b).1 hb)⟩
    · exact ⟨(hs.spare x h1).1, fun b hb => (hs.spare x h1).2.2 b ((hl b).1 hb)⟩
  · intro x hx
    obtain ⟨h1, h2⟩ := hX x hx
    have h3 : x < w.heap.size ∧ ∀ b, live g b → ι b ≠ x := by
      rcases h1 with h1 | h1
      · exact ⟨(hs.spare x h1).1, (hs.spare x h1).2.2⟩
      · exact hs.claim k x h1
    refine ⟨h3.1, fun k' hk' => ?_, fun b hb => h3.2 b ((hl b).1 hb)⟩
    by_cases e : k = k'
    · subst e; rw [upd_self] at hk'; exact h2 hk'
    · rw [upd_ne _ e] at hk'
      rcases h1 with h1 | h1
      · exact (hs.spare x h1).2.1 k' hk'
      · exact e (hs.disj k k' x h1 hk')
theorem Sim.relabel (hs : Sim B X g n a w M ι Gs) {k : Key} {V : V} {Gn : List Nat} {M' : Mem} (hM : Mle M M') (hM' : ∀ b o, M' b o ≠ M b o → b ∈ Gs k ∨ b ∈ X)
    (hst : ∀ b o v, M' b o = some v → w.cell? ⟨b, o, none⟩ = some v)
    (hV : ∀ v, valAt a (fun k => w.heap[k]?) ι k = some v → VR ⟨M', fun k => w.heap[k]?, ι, fun _ => none⟩ V v Gn)
    (hkeys : keys1 V = []) (hcell : (∃ b j, k = .c b j) → isCell V = true)
    (hold : isOld V = true → isOld (g k) = true) (hu : isUndef V = isUndef (g k)) (hr : ∀ b ∈ V.refs, live g b) (hG : ∀ x ∈ Gn, x ∈ Gs k ∨ x ∈ X) (hn : Gn.Nodup) (hX : ∀ x ∈ X', (x ∈ X ∨ x ∈ Gs k) ∧ x ∉ Gn) (hu' : isUndef V = true → Gn = []) :
    Sim B X' (gput g k V) n a w M' ι (upd Gs k Gn) :=
  hs.relabel' hM hM' hst hV hkeys hcell (fun h => .inl (hold h)) hu hr hG hn hX hu'
/-- memory goes on: what is nobody's changes, and cells of boxes of which nothing is known -/
theorem Sim.world (hs : Sim B X g n a w M ι Gs) {w' : World} {M' : Mem} {L : List Nat} (hf : Fr L w w') (hL : ∀ x ∈ L, x ∈ X ∨ ∃ b, live g b ∧ ι b = x)
    (hbox : ∀ b, live g b → ι b ∈ L → ∀ cs t, w.heap[ι b]? = some (.cells cs t (0, 0)) → ∃ cs' t', w'.heap[ι b]? = some (.cells cs' t' (0, 0)) ∧ cs'.size = cs.size ∧ ∀ j, cs'[j]? ≠ cs[j]? → g (.c b j) = .dead)
    (hM : Mle M M') (hM' : ∀ b o, M' b o ≠ M b o → b ∈ X ∨ w.heap.size ≤ b)
    (hst : ∀ b o v, M' b o = some v → w'.cell? ⟨b, o, none⟩ = some v)
    (hX : ∀ x ∈ X', x ∈ X ∨ (w.heap.size ≤ x ∧ x < w'.heap.size)) : Sim B X' g n a w' M' ι Gs := by
  have hlt : ∀ b, live g b → ι b < w.heap.size := by
    intro b hb
    obtain ⟨cs, t, h1, _⟩ := hs.box b hb
    rcases Nat.lt_or_ge (ι b) w.heap.size with h | h
    · exact h
    · rw [Array.getElem?_eq_none h] at h1; cases h1
  have hG : ∀ k, ∀ x ∈ Gs k, w'.heap[x]? = w.heap[x]? ∧ ∀ o, M' x o = M x o := by
    intro k x hx
    obtain ⟨c1, c2⟩ := hs.claim k x hx
    refine ⟨hf.block x c1 (fun hm => ?_), fun o => ?_⟩
    · rcases hL x hm with h | ⟨b, h1, h2⟩
      · exact (hs.spare x h).2.1 k hx
      · exact c2 b h1 h2
    · by_cases h : M' x o = M x o
      · exact h
      · rcases hM' x o h with h | h
        · exact ((hs.spare x h).2.1 k hx).elim
        · omega
  have hbx : ∀ b, live g b → ∀ cs t, w.heap[ι b]? = some (.cells cs t (0, 0)) → ∃ cs' t', w'.heap[ι b]? = some (.cells cs' t' (0, 0)) ∧ cs'.size = cs.size ∧ ∀ j, cs'[j]? ≠ cs[j]? → g (.c b j) = .dead := by
    intro b hb cs t h1
    by_cases h : ι b ∈ L
    · exact hbox b hb h cs t h1
    · exact ⟨cs, t, by rw [hf.block _ (hlt b hb) h]; exact h1, rfl, fun j hj => absurd rfl hj⟩
  have ho : ∀ k v', oldAt g (valAt a (fun k => w'.heap[k]?) ι) k = some v' → oldAt g (valAt a (fun k => w.heap[k]?) ι) k = some v' := by
    intro k v' h
    unfold oldAt at h ⊢
    split at h
    · rename_i h1
      rw [if_pos h1]
      cases k with
      | s i => exact h
      | c b j =>
        have hb : live g b := Classical.byContradiction fun hb => by rw [hs.gone b hb j] at h1; cases h1
        obtain ⟨cs, t, h2, _⟩ := hs.box b hb
        obtain ⟨cs', t', h3, h4, h5⟩ := hbx b hb cs t h2
        simp only [valAt, h3] at h
        simp only [valAt, h2]
        by_cases e : cs'[j]? = cs[j]?
        · rw [← e]; exact h
        · rw [h5 j e] at h1; cases h1
    · cases h
  have hle : ∀ k r, En.le (enOf g a (fun k => w.heap[k]?) M ι) (enOf g a (fun k => w'.heap[k]?) M' ι) r (Gs k) := fun k r => ⟨hM, fun x hx => hG k x hx, fun _ _ => rfl⟩
  refine { size := hs.size, defers := hs.defers, pin := hs.pin, fr := ?_, mle := hs.mle.trans hM, mo := ?_, mineG := hs.mineG, mineB := hs.mineB, mineX := ?_, out := hs.out, slot := ?_, box := ?_, gone := hs.gone, inj := hs.inj, refs := hs.refs, stable := hst, apart := ?_, free := hs.free, disj := hs.disj, nodup := hs.nodup, claim := ?_, spare := ?_ }
  · refine hs.fr.trans hf fun x hx => ?_
    rcases hL x hx with h | ⟨b, h1, h2⟩
    · exact hs.mineX x h
    · rw [← h2]; exact hs.mineB b h1
  · intro x o hx
    by_cases h : M' x o = M x o
    · rw [h]; exact hs.mo x o hx
    · rcases hM' x o h with h1 | h1
      · exact absurd (hs.mineX x h1) hx
      · exact absurd (.inr (Nat.le_trans hs.fr.size h1)) hx
  · intro i; exact VR_mono (hle _ _) (fun k _ v' h => ho k v' h) (hs.slot i)
  · intro b hb
    obtain ⟨cs, t, h1, h2⟩ := hs.box b hb
    obtain ⟨cs', t', h3, h4, h5⟩ := hbx b hb cs t h1
    refine ⟨cs', t', h3, fun j => ⟨fun h => by rw [h4]; exact (h2 j).1 h, fun v hv => ?_⟩⟩
    by_cases e : cs'[j]? = cs[j]?
    · rw [e] at hv
      exact ⟨((h2 j).2 v hv).1, CR_mono (hle _ _) ((h2 j).2 v hv).2⟩
    · have hd := h5 j e
      rw [hd]
      refine ⟨rfl, ?_⟩
      have hj : j < cs.size := by rw [← h4]; exact (Array.getElem?_eq_some_iff.1 hv).1
      have := ((h2 j).2 _ (Array.getElem?_eq_getElem hj)).2
      rw [hd] at this
      exact this
  · intro b o hb
    by_cases h : M' (ι b) o = M (ι b) o
    · rw [h]; exact hs.apart b o hb
    · rcases hM' _ o h with h1 | h1
      · exact absurd rfl ((hs.spare _ h1).2.2 b hb)
      · have := hlt b hb; omega
  · intro k x hx; exact ⟨Nat.lt_of_lt_of_le (hs.claim k x hx).1 hf.size, (hs.claim k x hx).2⟩
  · intro x hx
    rcases hX x hx with h | ⟨h1, h2⟩
    · exact ⟨Nat.lt_of_lt_of_le (hs.spare x h).1 hf.size, (hs.spare x h).2⟩
    · exact ⟨h2, fun k hk => absurd (hs.claim k x hk).1 (by omega), fun b hb e => by have := hlt b hb; omega⟩
  · intro x hx
    rcases hX x hx with h | ⟨h1, _⟩
    · exact hs.mineX x h
    · exact .inr (Nat.le_trans hs.fr.size h1)
/-- each value of a row with what is its own -/
theorem LsR_split {R : V → Value → List Nat → Prop} : ∀ {vs : List V} {xs : List Value} {G : List Nat}, LsR R vs xs G → G.Nodup →
    vs.length = xs.length ∧ ∃ f : Nat → List Nat, (∀ j, vs.length ≤ j → f j = []) ∧ (∀ j v x, vs[j]? = some v → xs[j]? = some x → R v x (f j)) ∧ (∀ j x, x ∈ f j → x ∈ G) ∧ (∀ j, (f j).Nodup) ∧ ∀ j j' x, x ∈ f j → x ∈ f j' → j = j'
  | [], [], _, h, _ => by
    refine ⟨rfl, fun _ => [], fun _ _ => rfl, ?_, ?_, ?_, ?_⟩
    · intro j v x h; simp at h
    · intro j x h; cases h
    · intro j; exact List.nodup_nil
    · intro j j' x h; cases h
  | v :: vs, x :: xs, G, ⟨G1, G2, e, h1, h2⟩, hn => by
    rw [e] at hn
    obtain ⟨n1, n2, n3⟩ := List.nodup_append.1 hn
    obtain ⟨hl, f, f0, f1, f2, f3, f4⟩ := LsR_split h2 n2
    refine ⟨by simp [hl], fun j => match j with | 0 => G1 | j + 1 => f j, ?_, ?_, ?_, ?_, ?_⟩
    · intro j hj
      cases j with
      | zero => simp at hj
      | succ j => exact f0 j (by simpa using hj)
    · intro j u y hu hy
      cases j with
      | zero => simp at hu hy; rw [← hu, ← hy]; exact h1
      | succ j => exact f1 j u y (by simpa using hu) (by simpa using hy)
    · intro j y hy
      rw [e]
      cases j with
      | zero => exact List.mem_append_left _ hy
      | succ j => exact List.mem_append_right _ (f2 j y hy)
    · intro j
      cases j with
      | zero => exact n1
      | succ j => exact f3 j
    · intro j j' y hy hy'
      cases j with
      | zero => cases j' with
        | zero => rfl
        | succ j' => exact absurd rfl (n3 y hy y (f2 j' y hy'))
      | succ j => cases j' with
        | zero => exact absurd rfl (n3 y hy' y (f2 j y hy))
        | succ j' => rw [f4 j j' y hy hy']
  | [], _ :: _, _, h, _ => h.elim
  | _ :: _, [], _, h, _ => h.elim
def gbox (g : Key → V) (d : Nat) (vs : List V) : Key → V
  | .c b j => if b = d then nth vs j else g (.c b j)
  | k => g k
theorem nth_get : ∀ (vs : List V) (j : Nat) (v : V), vs[j]? = some v → nth vs j = v
  | [], j, v, h => by simp at h
  | u :: vs, 0, v, h => by simp at h; exact h
  | u :: vs, j + 1, v, h => nth_get vs j v (by simpa using h)
theorem nth_out : ∀ (vs : List V) (j : Nat), vs.length ≤ j → nth vs j = .undef
  | [], _, _ => rfl
  | _ :: vs, 0, h => by simp at h
  | _ :: vs, j + 1, h => nth_out vs j (by simpa using h)
theorem gputs_wcells : ∀ (vs : List V) (g : Key → V) (d i : Nat), (∀ j, i ≤ j → g (.c d j) = .undef) → ∀ k, gputs g (wcells d i vs) k = match k with
    | .c b j => if b = d ∧ i ≤ j then nth vs (j - i) else g (.c b j)
    | .s t => g (.s t)
  | [], g, d, i, h, .s t => rfl
  | [], g, d, i, h, .c b j => by
    show g (.c b j) = if b = d ∧ i ≤ j then .undef else g (.c b j)
    split
    · rename_i e; rw [e.1]; exact h j e.2
    · rfl
  | v :: vs, g, d, i, h, k => by
    show gputs (gput g (.c d i) v) (wcells d (i + 1) vs) k = _
    rw [gputs_wcells vs _ d (i + 1) (fun j hj => by rw [gput_ne _ (by intro e; cases e; omega)]; exact h j (by omega)) k]
    cases k with
    | s t => exact gput_ne _ (by intro e; cases e)
    | c b j =>
      show (if b = d ∧ i + 1 ≤ j then nth vs (j - (i + 1)) else gput g (.c d i) v (.c b j)) = if b = d ∧ i ≤ j then nth (v :: vs) (j - i) else g (.c b j)
      by_cases e : b = d
      · subst e
        by_cases e1 : i = j
        · subst e1
          rw [if_neg (by omega), gput_self, if_pos ⟨rfl, Nat.le_refl _⟩, Nat.sub_self]; rfl
        · by_cases e2 : i ≤ j
          · rw [if_pos ⟨rfl, by omega⟩, if_pos ⟨rfl, e2⟩, show j - i = (j - (i + 1)) + 1 by omega]; rfl
          · rw [if_neg (by omega), if_neg (by omega), gput_ne _ (by intro e; cases e; exact e1 rfl)]
      · rw [if_neg (fun h => e h.1), if_neg (fun h => e h.1), gput_ne _ (by intro e'; cases e'; exact e rfl)]
theorem gputs_box {g : Key → V} {d : Nat} (vs : List V) (h : ∀ j, g (.c d j) = .undef) : gputs g (wcells d 0 vs) = gbox g d vs := by
  funext k
  rw [gputs_wcells vs g d 0 (fun j _ => h j) k]
  cases k with
  | s t => rfl
  | c b j =>
    show (if b = d ∧ 0 ≤ j then _ else _) = if b = d then _ else _
    by_cases e : b = d
    · rw [if_pos ⟨e, Nat.zero_le _⟩, if_pos e, Nat.sub_zero]
    · rw [if_neg (fun h => e h.1), if_neg e]
theorem nth_mem : ∀ (vs : List V) (j : Nat), j < vs.length → nth vs j ∈ vs
  | [], _, h => by simp at h
  | v :: vs, 0, _ => List.mem_cons_self
  | v :: vs, j + 1, h => List.mem_cons_of_mem _ (nth_mem vs j (by simpa using h))
theorem nth_some : ∀ (vs : List V) (j : Nat), j < vs.length → vs[j]? = some (nth vs j)
  | [], _, h => by simp at h
  | v :: vs, 0, _ => rfl
  | v :: vs, j + 1, h => by rw [List.getElem?_cons_succ]; exact nth_some vs j (by simpa using h)
theorem CR_refs {E : En} {v : V} {x : Value} {G : List Nat} (h : CR E v x G) : v.refs = refs2 v := by
  cases v
  case agg => exact h.elim
  case tup => exact h.elim
  all_goals rfl
theorem VR_undef {E : En} {x : Value} {G : List Nat} (h : VR E .undef x G) : G = [] := h
/-- a block that is nobody's is a box from now on -/
theorem Sim.newBox (hs : Sim B X g n a w M ι Gs) {d x : Nat} {vs : List V} {cs : Array Value} {t : TypeId} {Gn : List Nat} (hx : x ∈ X) (hdn : d < n) (hd : ¬ live g d) (hc : w.heap[x]? = some (.cells cs t (0, 0)))
    (hM : ∀ o, M x o = none) (h0 : vs ≠ []) (hV : LsR (CR (enOf g a (fun k => w.heap[k]?) M ι)) vs cs.toList Gn) (hun : ∀ v ∈ vs, isUndef v = false) (hr : ∀ v ∈ vs, ∀ b ∈ v.refs, live g b)
    (hold : ∀ v ∈ vs, isOld v = false)
    (hG : ∀ y ∈ Gn, y ∈ X ∧ y ≠ x) (hn : Gn.Nodup) (hX : ∀ y ∈ X', y ∈ X ∧ y ≠ x ∧ y ∉ Gn) :
    ∃ Gs', Sim B X' (gbox g d vs) n a w M (fun b => if b = d then x else ι b) Gs' ∧ ∀ i, Gs' (.s i) = Gs (.s i) := by
  obtain ⟨hlen, f, f0, f1, f2, f3, f4⟩ := LsR_split hV hn
  have hgc : ∀ b j, gbox g d vs (.c b j) = if b = d then nth vs j else g (.c b j) := fun _ _ => rfl
  have hgd : ∀ j, gbox g d vs (.c d j) = nth vs j := fun j => by rw [hgc, if_pos rfl]
  have hgn : ∀ b j, b ≠ d → gbox g d vs (.c b j) = g (.c b j) := fun b j e => by rw [hgc, if_neg e]
  have hld : live (gbox g d vs) d := by
    unfold live; rw [hgd]
    cases vs with
    | nil => exact absurd rfl h0
    | cons v vs => exact hun v (by simp)
  have hnd : ∀ b, live g b → b ≠ d := fun b hb e => hd (e ▸ hb)
  have hl : ∀ b, b ≠ d → (live (gbox g d vs) b ↔ live g b) := fun b e => by unfold live; rw [hgn b 0 e]
  have hl' : ∀ b, live g b → live (gbox g d vs) b := fun b hb => (hl b (hnd b hb)).2 hb
  have hι : ∀ b, live g b → (if b = d then x else ι b) = ι b := fun b hb => if_neg (hnd b hb)
  have hundef : ∀ j, nth vs j = .undef → vs.length ≤ j := fun j hj => by
    rcases Nat.lt_or_ge j vs.length with h | h
    · have := hun _ (nth_mem vs j h); rw [hj] at this; cases this
    · exact h
  have ho : ∀ k v', oldAt (gbox g d vs) (valAt a (fun k => w.heap[k]?) (fun b => if b = d then x else ι b)) k = some v' → oldAt g (valAt a (fun k => w.heap[k]?) ι) k = some v' := by
    intro k v' h
    unfold oldAt at h ⊢
    cases k with
    | s i => exact h
    | c b j =>
      by_cases e : b = d
      · subst e
        rw [hgd] at h
        split at h
        · rename_i h1
          rcases Nat.lt_or_ge j vs.length with h2 | h2
          · rw [hold _ (nth_mem vs j h2)] at h1; cases h1
          · rw [nth_out vs j h2] at h1; cases h1
        · cases h
      · rw [hgn b j e] at h
        simp only [valAt, if_neg e] at h
        exact h
  have hle : ∀ r G, (∀ b ∈ r, live g b) → En.le (enOf g a (fun k => w.heap[k]?) M ι) (enOf (gbox g d vs) a (fun k => w.heap[k]?) M (fun b => if b = d then x else ι b)) r G := fun r G hr =>
    ⟨Mle.refl _, fun _ _ => ⟨rfl, fun _ => rfl⟩, fun b hb => hι b (hr b hb)⟩
  let Gs' : Key → List Nat := fun k => match k with
    | .c b j => if b = d then f j else Gs (.c b j)
    | .s i => Gs (.s i)
  have hGd : ∀ j, Gs' (.c d j) = f j := fun j => if_pos rfl
  have hGn : ∀ b j, b ≠ d → Gs' (.c b j) = Gs (.c b j) := fun b j e => if_neg e
  have hcr' : ∀ j v, j < vs.length → cs[j]? = some v → CR (enOf (gbox g d vs) a (fun k => w.heap[k]?) M (fun b => if b = d then x else ι b)) (nth vs j) v (f j) := fun j v hj hv => by
    have h1 := f1 j _ v (nth_some vs j hj) (by rw [← hv]; simp)
    exact CR_mono (hle _ _ (fun b hb => hr _ (nth_mem vs j hj) b (by rw [CR_refs h1]; exact hb))) h1
  have hcase : ∀ k y, y ∈ Gs' k → (∃ j, k = .c d j ∧ y ∈ f j) ∨ ((∀ j, k ≠ .c d j) ∧ y ∈ Gs k) := by
    intro k y hy
    cases k with
    | s i => exact .inr ⟨(fun j e => nomatch e), hy⟩
    | c b j =>
      by_cases e : b = d
      · subst e; rw [hGd] at hy; exact .inl ⟨j, rfl, hy⟩
      · rw [hGn b j e] at hy
        refine .inr ⟨fun j' e' => ?_, hy⟩
        injection e' with e1 e2; exact e e1
  refine ⟨Gs', ?_, fun i => rfl⟩
  refine { size := hs.size, defers := hs.defers, pin := ?pin, fr := hs.fr, mle := hs.mle, mo := hs.mo, mineG := ?_, mineB := ?_, mineX := fun y hy => hs.mineX y (hX y hy).1, out := fun i hi => hs.out i hi, slot := ?_, box := ?_, gone := ?_, inj := ?_, refs := ?_, stable := hs.stable, apart := ?_, free := ?_, disj := ?_, nodup := ?_, claim := ?_, spare := ?_ }
  case pin =>
    intro p hp
    obtain ⟨h1, h2⟩ := hs.pin p hp
    have e : p.1 ≠ d := fun e => by omega
    exact ⟨h1, fun h => by rw [if_neg e]; exact h2 ((hl p.1 e).1 h)⟩
  · intro i; exact VR_mono (hle _ _ (hs.refs (.s i))) (fun k _ v' h => ho k v' h) (hs.slot i)
  · intro b hb
    by_cases e : b = d
    · subst e
      refine ⟨cs, t, by rw [if_pos rfl]; exact hc, fun j => ⟨fun h => ?_, fun v hv => ?_⟩⟩
      · rw [hgd] at h
        rcases Nat.lt_or_ge j vs.length with h2 | h2
        · rw [hlen] at h2; simpa using h2
        · rw [nth_out vs j h2] at h; cases h
      · have hj : j < vs.length := by rw [hlen]; simpa using (Array.getElem?_eq_some_iff.1 hv).1
        rw [hgd, hGd]
        exact ⟨hun _ (nth_mem vs j hj), hcr' _ _ hj hv⟩
    · have hb' := (hl b e).1 hb
      obtain ⟨cs', t', h1, h2⟩ := hs.box b hb'
      refine ⟨cs', t', by rw [if_neg e]; exact h1, fun j => ?_⟩
      rw [hgn b j e, hGn b j e]
      refine ⟨(h2 j).1, fun v hv => ⟨((h2 j).2 v hv).1, ?_⟩⟩
      have hcr := ((h2 j).2 v hv).2
      exact CR_mono (hle _ _ (fun b' hb' => hs.refs (.c b j) b' (by rw [CR_refs hcr]; exact hb'))) hcr
  · intro b hb j
    have e : b ≠ d := fun e => hb (by rw [e]; exact hld)
    rw [hgn b j e]; exact hs.gone b (fun h => hb (hl' b h)) j
  · intro b b' hb hb' e
    by_cases e1 : b = d
    · by_cases e2 : b' = d
      · rw [e1, e2]
      · rw [if_pos e1, if_neg e2] at e
        exact absurd e.symm ((hs.spare x hx).2.2 b' ((hl b' e2).1 hb'))
    · by_cases e2 : b' = d
      · rw [if_neg e1, if_pos e2] at e
        exact absurd e ((hs.spare x hx).2.2 b ((hl b e1).1 hb))
      · rw [if_neg e1, if_neg e2] at e
        exact hs.inj b b' ((hl b e1).1 hb) ((hl b' e2).1 hb') e
  · intro k b hb
    cases k with
    | s i => exact hl' b (hs.refs (.s i) b hb)
    | c b' j =>
      by_cases e : b' = d
      · subst e
        rw [hgd] at hb
        rcases Nat.lt_or_ge j vs.length with h2 | h2
        · exact hl' b (hr _ (nth_mem vs j h2) b hb)
        · rw [nth_out vs j h2] at hb; cases hb
      · rw [hgn b' j e] at hb; exact hl' b (hs.refs _ b hb)
  · intro b o hb
    by_cases e : b = d
    · rw [if_pos e]; exact hM o
    · rw [if_neg e]; exact hs.apart b o ((hl b e).1 hb)
  · intro k hk
    cases k with
    | s i => exact hs.free (.s i) hk
    | c b j =>
      by_cases e : b = d
      · subst e; rw [hgd] at hk; rw [hGd]; exact f0 j (hundef j hk)
      · rw [hgn b j e] at hk; rw [hGn b j e]; exact hs.free _ hk
  · intro k k' y hy hy'
    rcases hcase k y hy with ⟨j, e1, h1⟩ | ⟨_, h1⟩
    · rcases hcase k' y hy' with ⟨j', e2, h2⟩ | ⟨_, h2⟩
      · rw [e1, e2, f4 j j' y h1 h2]
      · exact ((hs.spare y (hG y (f2 j y h1)).1).2.1 k' h2).elim
    · rcases hcase k' y hy' with ⟨j', e2, h2⟩ | ⟨_, h2⟩
      · exact ((hs.spare y (hG y (f2 j' y h2)).1).2.1 k h1).elim
      · exact hs.disj k k' y h1 h2
  · intro k
    cases k with
    | s i => exact hs.nodup (.s i)
    | c b j =>
      by_cases e : b = d
      · subst e; rw [hGd]; exact f3 j
      · rw [hGn b j e]; exact hs.nodup _
  · intro k y hy
    rcases hcase k y hy with ⟨j, e1, h1⟩ | ⟨_, h1⟩
    · obtain ⟨a1, a2⟩ := hG y (f2 j y h1)
      refine ⟨(hs.spare y a1).1, fun b hb => ?_⟩
      by_cases e : b = d
      · rw [if_pos e]; exact fun e => a2 e.symm
      · rw [if_neg e]; exact (hs.spare y a1).2.2 b ((hl b e).1 hb)
    · refine ⟨(hs.claim k y h1).1, fun b hb => ?_⟩
      by_cases e : b = d
      · rw [if_pos e]; exact fun e => (hs.spare x hx).2.1 k (e ▸ h1)
      · rw [if_neg e]; exact (hs.claim k y h1).2 b ((hl b e).1 hb)
  · intro y hy
    obtain ⟨a1, a2, a3⟩ := hX y hy
    obtain ⟨b1, b2, b3⟩ := hs.spare y a1
    refine ⟨b1, fun k hk => ?_, fun b hb => ?_⟩
    · rcases hcase k y hk with ⟨j, e1, h1⟩ | ⟨_, h1⟩
      · exact a3 (f2 j y h1)
      · exact b2 k h1
    · by_cases e : b = d
      · rw [if_pos e]; exact fun e => a2 e.symm
      · rw [if_neg e]; exact b3 b ((hl b e).1 hb)
  · intro k y hy
    rcases hcase k y hy with ⟨j, e1, h1⟩ | ⟨_, h1⟩
    · exact hs.mineX y (hG y (f2 j y h1)).1
    · exact hs.mineG k y h1
  · intro b hb
    by_cases e : b = d
    · show B.mine (if b = d then x else ι b); rw [if_pos e]; exact hs.mineX x hx
    · show B.mine (if b = d then x else ι b); rw [if_neg e]; exact hs.mineB b ((hl b e).1 hb)
end
end Go.Proofs.Ytkfphlmbdppbfaa.Vm
