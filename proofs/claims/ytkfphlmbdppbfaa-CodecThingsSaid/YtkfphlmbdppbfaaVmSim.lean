/- A state of the machine, and the memory that it stands for. No condition. -/
import Derived.Test.YtkfphlmbdppbfaaVmRel
namespace Go.Proofs.Ytkfphlmbdppbfaa.Vm
open Go Go.RowKit
set_option linter.unusedVariables false
set_option linter.unusedSimpArgs false

/-- what values are read against -/
structure En where
  M : Mem
  h : Nat → Option Obj
  ι : Nat → Nat
  old : Key → Option Value
def LsR (R : V → Value → List Nat → Prop) : List V → List Value → List Nat → Prop
  | [], [], G => G = []
  | v :: vs, x :: xs, G => ∃ G1 G2, G = G1 ++ G2 ∧ R v x G1 ∧ LsR R vs xs G2
  | _, _, _ => False
def LR (E : En) : V → Value → List Nat → Prop
  | .undef, _, G => G = []
  | .dead, _, G => G = []
  | .skip, v, G => v = Go.undef ∧ G = []
  | .int k n, v, G => v = .int k n ∧ G = []
  | .bool b, v, G => v = .bool b ∧ G = []
  | .str s, v, G => v = .string s ∧ G = []
  | .list t xs .no, v, G => lstR E.M t xs v ∧ G = []
  | .list t xs .nil, v, G => (xs = [] ∧ v = .slice none 0 0) ∧ G = []
  | .list t xs (.own s _), v, G => ownR E.M E.h t xs s v G
  | .nils, v, G => v = .slice none 0 0 ∧ G = []
  | .alias _, _, _ => False
  | .ref b off, v, G => v = .pointer (some ⟨E.ι b, off, none⟩) ∧ G = []
  | .nilp, v, G => v = .pointer none ∧ G = []
  | .elt t x off, v, G => (∃ b o us, v = .pointer (some ⟨b, o + off, none⟩) ∧ datR E.M t x us ∧ ∀ (j : Nat) (u : Value), us[j]? = some u → E.M b (o + j) = some u) ∧ G = []
  | .ep _ _ _ _, _, _ => False
  | .nilf, v, G => v = .nilFunc ∧ G = []
  | .fn _ _, _, _ => False
  | .agg _, _, _ => False
  | .tup _, _, _ => False
def CR (E : En) : V → Value → List Nat → Prop
  | .fn f cap, v, G => (∃ vals : List Value, v = .func (.func f) #[] vals.toArray ∧ LsR (LR E) cap vals []) ∧ G = []
  | v, x, G => LR E v x G
def AR (E : En) : V → Value → List Nat → Prop
  | .agg cs, v, G => ∃ vals : List Value, v = .agg vals.toArray ∧ LsR (CR E) cs vals G
  | v, x, G => CR E v x G
/-- a part of what a call hands back: what may be appended to stands at the top -/
def TR (E : En) : V → Value → List Nat → Prop
  | .agg cs, v, G => AR E (.agg cs) v [] ∧ G = []
  | v, x, G => CR E v x G
def VR (E : En) : V → Value → List Nat → Prop
  | .alias k, v, G => (∀ v', E.old k = some v' → v = v') ∧ G = []
  | .ep k t i off, v, G => (∀ v', E.old k = some v' → ∃ b o n c, v' = .slice (some ⟨b, o, none⟩) n c ∧ i < n ∧ v = .pointer (some ⟨b, o + i * t.size + off, none⟩)) ∧ G = []
  | .tup cs, v, G => ∃ vals : List Value, v = .tuple vals.toArray ∧ LsR (TR E) cs vals G
  | v, x, G => AR E v x G

/-- one may be read where another one was -/
structure En.le (E E' : En) (refs G : List Nat) : Prop where
  M : Mle E.M E'.M
  h : ∀ g ∈ G, E'.h g = E.h g ∧ ∀ o, E'.M g o = E.M g o
  ι : ∀ b ∈ refs, E'.ι b = E.ι b
theorem En.le.sub {E E' : En} {r G r' G' : List Nat} (h : En.le E E' r G) (h1 : ∀ b ∈ r', b ∈ r) (h2 : ∀ g ∈ G', g ∈ G) : En.le E E' r' G' :=
  ⟨h.M, fun g hg => h.h g (h2 g hg), fun b hb => h.ι b (h1 b hb)⟩
theorem LR_mono {E E' : En} : ∀ {v : V} {x : Value} {G : List Nat}, En.le E E' (refs1 v) G → LR E v x G → LR E' v x G
  | .undef, _, _, _, h => h
  | .dead, _, _, _, h => h
  | .skip, _, _, _, h => h
  | .int _ _, _, _, _, h => h
  | .bool _, _, _, _, h => h
  | .str _, _, _, _, h => h
  | .list t xs .no, _, _, le, ⟨h, hG⟩ => ⟨lstR_mono le.M h, hG⟩
  | .list t xs .nil, _, _, _, h => h
  | .list t xs (.own s _), _, _, le, h => ownR_mono le.M le.h h
  | .nils, _, _, _, h => h
  | .alias _, _, _, _, h => h.elim
  | .ref b off, _, _, le, ⟨h, hG⟩ => ⟨by rw [le.ι b (by simp [refs1])]; exact h, hG⟩
  | .nilp, _, _, _, h => h
  | .elt t x off, _, _, le, ⟨⟨b, o, us, h1, h2, h3⟩, hG⟩ => ⟨⟨b, o, us, h1, datR_mono le.M h2, fun j u hj => le.M _ _ _ (h3 j u hj)⟩, hG⟩
  | .ep _ _ _ _, _, _, _, h => h.elim
  | .nilf, _, _, _, h => h
  | .fn _ _, _, _, _, h => h.elim
  | .agg _, _, _, _, h => h.elim
  | .tup _, _, _, _, h => h.elim
theorem LsR_mono {R R' : V → Value → List Nat → Prop} : ∀ {vs : List V} {xs : List Value} {G : List Nat}, (∀ v ∈ vs, ∀ x G', (∀ g ∈ G', g ∈ G) → R v x G' → R' v x G') → LsR R vs xs G → LsR R' vs xs G
  | [], [], _, _, h => h
  | v :: vs, x :: xs, G, hR, ⟨G1, G2, e, h1, h2⟩ => ⟨G1, G2, e, hR v (by simp) x G1 (fun g hg => by rw [e]; exact List.mem_append_left _ hg) h1,
      LsR_mono (fun v' hv x' G' hG' => hR v' (List.mem_cons_of_mem _ hv) x' G' (fun g hg => by rw [e]; exact List.mem_append_right _ (hG' g hg))) h2⟩
  | [], _ :: _, _, _, h => h.elim
  | _ :: _, [], _, _, h => h.elim
theorem CR_mono {E E' : En} {v : V} {x : Value} {G : List Nat} (le : En.le E E' (refs2 v) G) (h : CR E v x G) : CR E' v x G := by
  cases v
  case fn f cap =>
    obtain ⟨⟨vals, h1, h2⟩, h3⟩ := h
    exact ⟨⟨vals, h1, LsR_mono (fun v hv x G' hG' k => LR_mono (le.sub (fun b hb => List.mem_flatMap.2 ⟨v, hv, hb⟩) (fun g hg => by cases (hG' g hg))) k) h2⟩, h3⟩
  all_goals (simp only [CR] at h ⊢; exact LR_mono le h)
theorem AR_mono {E E' : En} {v : V} {x : Value} {G : List Nat} (le : En.le E E' (refs3 v) G) (h : AR E v x G) : AR E' v x G := by
  cases v
  case agg cs =>
    obtain ⟨vals, h1, h2⟩ := h
    exact ⟨vals, h1, LsR_mono (fun v hv x G' hG' k => CR_mono (le.sub (fun b hb => List.mem_flatMap.2 ⟨v, hv, hb⟩) hG') k) h2⟩
  all_goals (simp only [AR] at h ⊢; exact CR_mono le h)
theorem TR_mono {E E' : En} {v : V} {x : Value} {G : List Nat} (le : En.le E E' (refs3 v) G) (h : TR E v x G) : TR E' v x G := by
  cases v
  case agg cs => exact ⟨AR_mono (le.sub (fun b hb => hb) (fun g hg => by cases hg)) h.1, h.2⟩
  all_goals (simp only [TR] at h ⊢; exact CR_mono le h)
def keys1 : V → List Key
  | .alias k => [k]
  | .ep k _ _ _ => [k]
  | _ => []
theorem VR_mono {E E' : En} {v : V} {x : Value} {G : List Nat} (le : En.le E E' v.refs G) (ho : ∀ k ∈ keys1 v, ∀ v', E'.old k = some v' → E.old k = some v') (h : VR E v x G) : VR E' v x G := by
  cases v
  case tup cs =>
    obtain ⟨vals, h1, h2⟩ := h
    exact ⟨vals, h1, LsR_mono (fun v hv x G' hG' k => TR_mono (le.sub (fun b hb => List.mem_flatMap.2 ⟨v, hv, hb⟩) hG') k) h2⟩
  case alias k => exact ⟨fun v' hv => h.1 v' (ho k (by simp [keys1]) v' hv), h.2⟩
  case ep k t i off => exact ⟨fun v' hv => h.1 v' (ho k (by simp [keys1]) v' hv), h.2⟩
  all_goals (simp only [VR] at h ⊢; exact AR_mono le h)

/-- what holds a value may be: a cell holds no whole -/
def isCell : V → Bool
  | .agg _ => false
  | .tup _ => false
  | _ => true
def live (g : Key → V) (b : Nat) : Prop := isUndef (g (.c b 0)) = false
/-- the value at a key -/
def valAt (a : Act) (h : Nat → Option Obj) (ι : Nat → Nat) : Key → Option Value
  | .s i => some (a.tmps.getD i Go.undef)
  | .c b j => match h (ι b) with
    | some (.cells cs _ _) => cs[j]?
    | _ => none
def oldAt (g : Key → V) (p : Key → Option Value) (k : Key) : Option Value := if isOld (g k) = true then p k else none
def enOf (g : Key → V) (a : Act) (h : Nat → Option Obj) (M : Mem) (ι : Nat → Nat) : En := ⟨M, h, ι, oldAt g (valAt a h ι)⟩
/-- where a call began: what it may change; the memory then -/
structure Bs where
  L : List Nat
  w : World
  M : Mem
  /-- boxes that came in, and their blocks -/
  pins : List (Nat × Nat)
def Bs.mine (B : Bs) (x : Nat) : Prop := x ∈ B.L ∨ B.w.heap.size ≤ x
/-- the state g of the machine stands for temporaries and memory; X: blocks that are nobody's and may be written -/
structure Sim (B : Bs) (X : List Nat) (g : Key → V) (n : Nat) (a : Act) (w : World) (M : Mem) (ι : Nat → Nat) (Gs : Key → List Nat) : Prop where
  size : a.tmps.size = n
  defers : a.defers = []
  fr : Fr B.L B.w w
  mle : Mle B.M M
  mo : ∀ x o, ¬ B.mine x → M x o = B.M x o
  out : ∀ i, n ≤ i → g (.s i) = .undef
  slot : ∀ i, VR (enOf g a (fun k => w.heap[k]?) M ι) (g (.s i)) (a.tmps.getD i Go.undef) (Gs (.s i))
  box : ∀ b, live g b → ∃ cs t, w.heap[ι b]? = some (.cells cs t (0, 0)) ∧ ∀ j, (isUndef (g (.c b j)) = false → j < cs.size) ∧ ∀ v, cs[j]? = some v → isUndef (g (.c b j)) = false ∧ CR (enOf g a (fun k => w.heap[k]?) M ι) (g (.c b j)) v (Gs (.c b j))
  gone : ∀ b, ¬ live g b → ∀ j, g (.c b j) = .undef
  inj : ∀ b b', live g b → live g b' → ι b = ι b' → b = b'
  refs : ∀ k, ∀ b ∈ (g k).refs, live g b
  stable : ∀ b o v, M b o = some v → w.cell? ⟨b, o, none⟩ = some v
  apart : ∀ b o, live g b → M (ι b) o = none
  free : ∀ k, g k = .undef → Gs k = []
  disj : ∀ k k' x, x ∈ Gs k → x ∈ Gs k' → k = k'
  nodup : ∀ k, (Gs k).Nodup
  claim : ∀ k x, x ∈ Gs k → x < w.heap.size ∧ ∀ b, live g b → ι b ≠ x
  spare : ∀ x ∈ X, x < w.heap.size ∧ (∀ k, x ∉ Gs k) ∧ ∀ b, live g b → ι b ≠ x
  mineG : ∀ k x, x ∈ Gs k → B.mine x
  mineB : ∀ b, live g b → B.mine (ι b)
  mineX : ∀ x ∈ X, B.mine x
  pin : ∀ p ∈ B.pins, n ≤ p.1 ∧ (live g p.1 → ι p.1 = p.2)
end Go.Proofs.Ytkfphlmbdppbfaa.Vm
