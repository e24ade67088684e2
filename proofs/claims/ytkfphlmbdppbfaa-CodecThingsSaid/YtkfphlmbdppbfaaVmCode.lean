/- The machine's way through a function is the model's. No condition. -/
import Derived.Test.YtkfphlmbdppbfaaVmHead
namespace Go.Proofs.Ytkfphlmbdppbfaa.Vm
open Go Go.RowKit
set_option linter.unusedVariables false
set_option linter.unusedSimpArgs false
def X.toExit : Vm.X → Exit
  | .normal => .normal
  | .exit i => .exit i
def Post (B : Bs) (e : Exit) (σ : St) : Exit → Act → World → Prop := fun e' a w => e' = e ∧ GoodS B σ a w
theorem codeAt_nil (c : Code) : codeAt c [] = some c := by cases c <;> rfl
theorem codeAt_app : ∀ (p : List Bool) {c d : Code} (q : List Bool), codeAt c p = some d → codeAt c (p ++ q) = codeAt d q
  | [], c, d, q, h => by
    rw [codeAt_nil] at h
    rw [Option.some.inj h]; rfl
  | x :: p, c, d, q, h => by
    cases c <;> cases x <;> first
      | (simp only [codeAt] at h; exact codeAt_app p q h)
      | (simp [codeAt] at h)
theorem GoodS.bool {B : Bs} {σ : St} {a : Act} {w : World} (h : GoodS B σ a w) {t : Nat} {b : Bool} (hb : σ.get (.s t) = .bool b) : GoodS B (σ.put (.s t) (.bool b)) a w := by
  show Good B (σ.put (.s t) (.bool b)).get σ.n a w
  rw [get_put, gput_same (show σ.get (.s t) = .bool b from hb)]
  exact h
theorem GoodS.eval {B : Bs} {σ : St} {a : Act} {w : World} (h : GoodS B σ a w) {t : Nat} {b : Bool} (hb : σ.get (.s t) = .bool b) : a.eval (.tmp t) = .bool b := by
  obtain ⟨M, ι, Gs, hs⟩ := h
  have := hs.slot t
  rw [show σ.get (.s t) = .bool b from hb] at this
  exact this.1
section
variable {P : Program} {cfg : Cfg} {fu : FuncId} {cf : CallF} {lf : LoopF} {kret : St → Option Res} {top : Code}
  (hT : tabOk P cfg.tab cfg.tab = true) (hL : CloneOk P cfg) (hm : P.follows .mixedOrders = true)
  (hcf : ∀ f args lent κ z, cf f args lent κ = some z → ∃ r, CallAt P f args lent r ∧ κ r = some z)
  (hlf : ∀ p b σ K z, codeAt top p = some (.loop b) → lf p σ K = some z → (∃ x σ' m, K x σ' = some z ∧ σ'.n = σ.n ∧ ∀ B a w, GoodS B σ a w → Code.rounds P b (Post B x.toExit σ') m a w) ∨
    (∃ σ' m, kret σ' = some z ∧ σ'.n = σ.n ∧ ∀ B a w, GoodS B σ a w → Code.rounds P b (Post B .ret σ') m a w))
include hT hL hm hcf hlf
theorem evC_sound : ∀ (c : Code) {p : List Bool} {σ : St} {K : Cont} {z : Res}, codeAt top p = some c → evC cfg fu cf lf kret c p σ K = some z →
    (∃ x σ', K x σ' = some z ∧ σ'.n = σ.n ∧ ∀ B a w, GoodS B σ a w → c.wp P (Post B x.toExit σ') a w) ∨ (∃ σ', kret σ' = some z ∧ σ'.n = σ.n ∧ ∀ B a w, GoodS B σ a w → c.wp P (Post B .ret σ') a w)
  | .skip, p, σ, K, z, hp, h => .inl ⟨.normal, σ, h, rfl, fun B a w hg => wp_skip ⟨rfl, hg⟩⟩
  | .label _, p, σ, K, z, hp, h => .inl ⟨.normal, σ, h, rfl, fun B a w hg => wp_label ⟨rfl, hg⟩⟩
  | .region id ops draw, p, σ, K, z, hp, h => by
    obtain ⟨l, σ', h1, h2, h3, h4, h5⟩ := evOps_inv hcf h
    refine .inl ⟨.normal, σ'.calm, h5, h3, fun B a w hg => ?_⟩
    refine wp_mono (region_sound hT hL hm h1 (by simpa using h4) hg) (fun e a' w' ⟨e1, hg'⟩ => ⟨e1, GoodS.calm ?_⟩)
    show Good B σ'.get σ'.n a' w'
    rw [h2, h3]; exact hg'
  | .seq x y, p, σ, K, z, hp, h => by
    have hx : codeAt top (p ++ [false]) = some x := by rw [codeAt_app p _ hp]; exact codeAt_nil _
    have hy : codeAt top (p ++ [true]) = some y := by rw [codeAt_app p _ hp]; exact codeAt_nil _
    rcases evC_sound x hx (show evC cfg fu cf lf kret x (p ++ [false]) σ (kSeq (evC cfg fu cf lf kret y (p ++ [true])) K) = some z from h) with ⟨e, σ1, h1, n1, h2⟩ | ⟨σ1, h1, n1, h2⟩
    · cases e with
      | normal =>
        rcases evC_sound y hy (show evC cfg fu cf lf kret y (p ++ [true]) σ1 K = some z from h1) with ⟨e, σ2, h3, n2, h4⟩ | ⟨σ2, h3, n2, h4⟩
        · exact .inl ⟨e, σ2, h3, n2.trans n1, fun B a w hg => wp_seq (wp_mono (h2 B a w hg) (fun e' a' w' ⟨e1, hg'⟩ => by subst e1; exact h4 B a' w' hg'))⟩
        · exact .inr ⟨σ2, h3, n2.trans n1, fun B a w hg => wp_seq (wp_mono (h2 B a w hg) (fun e' a' w' ⟨e1, hg'⟩ => by subst e1; exact h4 B a' w' hg'))⟩
      | exit i => exact .inl ⟨.exit i, σ1, h1, n1, fun B a w hg => wp_seq (wp_mono (h2 B a w hg) (fun e' a' w' ⟨e1, hg'⟩ => by subst e1; exact ⟨rfl, hg'⟩))⟩
    · exact .inr ⟨σ1, h1, n1, fun B a w hg => wp_seq (wp_mono (h2 B a w hg) (fun e' a' w' ⟨e1, hg'⟩ => by subst e1; exact ⟨rfl, hg'⟩))⟩
  | .cond c x y, p, σ, K, z, hp, h => by
    have hx : codeAt top (p ++ [false]) = some x := by rw [codeAt_app p _ hp]; exact codeAt_nil _
    have hy : codeAt top (p ++ [true]) = some y := by rw [codeAt_app p _ hp]; exact codeAt_nil _
    cases c
    case tmp t =>
      have h : (match σ.get (.s t) with
        | .bool v => if v = true then evC cfg fu cf lf kret x (p ++ [false]) (σ.put (.s t) (.bool true)) K else evC cfg fu cf lf kret y (p ++ [true]) (σ.put (.s t) (.bool false)) K
        | _ => none) = some z := h
      split at h
      · rename_i v hv
        split at h
        · rename_i hvt
          subst hvt
          rcases evC_sound x hx h with ⟨e, σ1, h1, n1, h2⟩ | ⟨σ1, h1, n1, h2⟩
          · exact .inl ⟨e, σ1, h1, n1, fun B a w hg => wp_cond_true (hg.eval hv) (h2 B a w (hg.bool hv))⟩
          · exact .inr ⟨σ1, h1, n1, fun B a w hg => wp_cond_true (hg.eval hv) (h2 B a w (hg.bool hv))⟩
        · rename_i hvt
          have hvt : v = false := by simpa using hvt
          subst hvt
          rcases evC_sound y hy h with ⟨e, σ1, h1, n1, h2⟩ | ⟨σ1, h1, n1, h2⟩
          · exact .inl ⟨e, σ1, h1, n1, fun B a w hg => wp_cond_false (hg.eval hv) (h2 B a w (hg.bool hv))⟩
          · exact .inr ⟨σ1, h1, n1, fun B a w hg => wp_cond_false (hg.eval hv) (h2 B a w (hg.bool hv))⟩
      · cases h
    case const v =>
      cases v
      case bool v =>
        cases v
        case true =>
          have h : evC cfg fu cf lf kret x (p ++ [false]) σ K = some z := h
          rcases evC_sound x hx h with ⟨e, σ1, h1, n1, h2⟩ | ⟨σ1, h1, n1, h2⟩
          · exact .inl ⟨e, σ1, h1, n1, fun B a w hg => wp_cond_true rfl (h2 B a w hg)⟩
          · exact .inr ⟨σ1, h1, n1, fun B a w hg => wp_cond_true rfl (h2 B a w hg)⟩
        case false =>
          have h : evC cfg fu cf lf kret y (p ++ [true]) σ K = some z := h
          rcases evC_sound y hy h with ⟨e, σ1, h1, n1, h2⟩ | ⟨σ1, h1, n1, h2⟩
          · exact .inl ⟨e, σ1, h1, n1, fun B a w hg => wp_cond_false rfl (h2 B a w hg)⟩
          · exact .inr ⟨σ1, h1, n1, fun B a w hg => wp_cond_false rfl (h2 B a w hg)⟩
      all_goals cases h
    all_goals cases h
  | .block id b, p, σ, K, z, hp, h => by
    have hb : codeAt top (p ++ [false]) = some b := by rw [codeAt_app p _ hp]; exact codeAt_nil _
    rcases evC_sound b hb (show evC cfg fu cf lf kret b (p ++ [false]) σ (kBlock id K) = some z from h) with ⟨e, σ1, h1, n1, h2⟩ | ⟨σ1, h1, n1, h2⟩
    · cases e with
      | normal => exact .inl ⟨.normal, σ1, h1, n1, fun B a w hg => wp_block (wp_mono (h2 B a w hg) (fun e' a' w' ⟨e1, hg'⟩ => by subst e1; exact ⟨rfl, hg'⟩))⟩
      | exit i =>
        have h3 : (match Nat.beq i id with
          | true => K .normal σ1
          | false => K (.exit i) σ1) = some z := h1
        split at h3
        · rename_i hi
          have hi := Nat.eq_of_beq_eq_true hi
          subst hi
          exact .inl ⟨.normal, σ1, h3, n1, fun B a w hg => wp_block (wp_mono (h2 B a w hg) (fun e' a' w' ⟨e1, hg'⟩ => by subst e1; show (if i = i then _ else _); rw [if_pos rfl]; exact ⟨rfl, hg'⟩))⟩
        · rename_i hi
          have hi : i ≠ id := fun e => by rw [e, Nat.beq_refl id] at hi; cases hi
          exact .inl ⟨.exit i, σ1, h3, n1, fun B a w hg => wp_block (wp_mono (h2 B a w hg) (fun e' a' w' ⟨e1, hg'⟩ => by subst e1; show (if i = id then _ else _); rw [if_neg hi]; exact ⟨rfl, hg'⟩))⟩
    · exact .inr ⟨σ1, h1, n1, fun B a w hg => wp_block (wp_mono (h2 B a w hg) (fun e' a' w' ⟨e1, hg'⟩ => by subst e1; exact ⟨rfl, hg'⟩))⟩
  | .scope b, p, σ, K, z, hp, h => by
    have hb : codeAt top (p ++ [false]) = some b := by rw [codeAt_app p _ hp]; exact codeAt_nil _
    rcases evC_sound b hb (show evC cfg fu cf lf kret b (p ++ [false]) σ K = some z from h) with ⟨e, σ1, h1, n1, h2⟩ | ⟨σ1, h1, n1, h2⟩
    · exact .inl ⟨e, σ1, h1, n1, fun B a w hg => wp_scope_straight (wp_mono (h2 B a w hg) (fun e' a' w' ⟨e1, hg'⟩ => by subst e1; cases e <;> exact ⟨rfl, hg'⟩))⟩
    · exact .inr ⟨σ1, h1, n1, fun B a w hg => wp_scope_straight (wp_mono (h2 B a w hg) (fun e' a' w' ⟨e1, hg'⟩ => by subst e1; exact ⟨rfl, hg'⟩))⟩
  | .loop b, p, σ, K, z, hp, h => by
    rcases hlf p b (cfg.head fu p σ) K z hp h with ⟨x, σ', m, h1, n1, h2⟩ | ⟨σ', m, h1, n1, h2⟩
    · exact .inl ⟨x, σ', h1, n1, fun B a w hg => wp_loop_rounds m (h2 B a w (hg.head _ _ _))⟩
    · exact .inr ⟨σ', h1, n1, fun B a w hg => wp_loop_rounds m (h2 B a w (hg.head _ _ _))⟩
  | .exit id, p, σ, K, z, hp, h => .inl ⟨.exit id, σ, h, rfl, fun B a w hg => wp_exit ⟨rfl, hg⟩⟩
  | .ret, p, σ, K, z, hp, h => .inr ⟨σ, h, rfl, fun B a w hg => wp_ret ⟨rfl, hg⟩⟩
  | .goto _, _, _, _, _, _, h => by cases h
  | .rangeFunc .., _, _, _, _, _, h => by cases h
end
end Go.Proofs.Ytkfphlmbdppbfaa.Vm
