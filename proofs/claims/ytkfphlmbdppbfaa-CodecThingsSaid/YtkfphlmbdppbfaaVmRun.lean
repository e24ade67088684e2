/- What an operation of the machine comes to. No condition. -/
import Derived.Test.YtkfphlmbdppbfaaVmMap
namespace Go.Proofs.Ytkfphlmbdppbfaa.Vm
open Go Go.RowKit
set_option linter.unusedVariables false
set_option linter.unusedSimpArgs false

/-- what a call comes to -/
abbrev CallR := FuncId → List V → List Box → Res → Prop
inductive Run (C : CallR) (g : Key → V) {α : Type} : RM α → List Key → α → Prop where
  | ret (a : α) : Run C g (.ret a) [] a
  | rd {k : Key} {f : V → RM α} {rs : List Key} {a : α} (h : Run C g (f (g k)) rs a) : Run C g (.rd k f) (k :: rs) a
  | tt {b : Bool} {x y : RM α} {rs : List Key} {a : α} (hb : b = true) (h : Run C g x rs a) : Run C g (.br b x y) rs a
  | ff {b : Bool} {x y : RM α} {rs : List Key} {a : α} (hb : ¬ b = true) (h : Run C g y rs a) : Run C g (.br b x y) rs a
  | call {f : FuncId} {args : List V} {lent : List Box} {G : Res → RM α} {r : Res} {rs : List Key} {a : α} (hc : C f args lent r) (h : Run C g (G r) rs a) : Run C g (.call f args lent G) rs a
section
variable {C : CallR} {g : Key → V} {α β : Type}
theorem Run.ret_inv {a b : α} {rs : List Key} (h : Run C g (.ret a) rs b) : b = a ∧ rs = [] := by cases h; exact ⟨rfl, rfl⟩
theorem Run.fail_inv {b : α} {rs : List Key} (h : Run C g (.fail : RM α) rs b) : False := by cases h
theorem Run.rd_inv {k : Key} {f : V → RM α} {b : α} {rs : List Key} (h : Run C g (.rd k f) rs b) : ∃ r, rs = k :: r ∧ Run C g (f (g k)) r b := by cases h; exact ⟨_, rfl, ‹_›⟩
theorem Run.br_inv {c : Bool} {x y : RM α} {b : α} {rs : List Key} (h : Run C g (.br c x y) rs b) : (c = true ∧ Run C g x rs b) ∨ (¬ c = true ∧ Run C g y rs b) := by
  cases h
  · exact .inl ⟨‹_›, ‹_›⟩
  · exact .inr ⟨‹_›, ‹_›⟩
theorem Run.guard_inv {c : Bool} {x : RM α} {b : α} {rs : List Key} (h : Run C g (RM.guard c x) rs b) : c = true ∧ Run C g x rs b := by
  rcases h.br_inv with h | h
  · exact h
  · exact h.2.fail_inv.elim
theorem Run.opt_inv {o : Option β} {f : β → RM α} {b : α} {rs : List Key} (h : Run C g (RM.opt o f) rs b) : ∃ x, o = some x ∧ Run C g (f x) rs b := by
  cases o with
  | none => exact h.fail_inv.elim
  | some x => exact ⟨x, rfl, h⟩
theorem Run.call_inv {f : FuncId} {args : List V} {lent : List Box} {G : Res → RM α} {b : α} {rs : List Key} (h : Run C g (.call f args lent G) rs b) : ∃ r, C f args lent r ∧ Run C g (G r) rs b := by
  cases h; exact ⟨_, ‹_›, ‹_›⟩
theorem Run.bind_inv : ∀ {m : RM α} {f : α → RM β} {rs : List Key} {b : β}, Run C g (m.bind f) rs b → ∃ r1 r2 a, rs = r1 ++ r2 ∧ Run C g m r1 a ∧ Run C g (f a) r2 b
  | .ret a, f, rs, b, h => ⟨[], rs, a, rfl, .ret a, h⟩
  | .fail, f, rs, b, h => h.fail_inv.elim
  | .rd k G, f, rs, b, h => by
    obtain ⟨r, e, h⟩ := Run.rd_inv h
    obtain ⟨r1, r2, a, e', h1, h2⟩ := Run.bind_inv h
    exact ⟨k :: r1, r2, a, by rw [e, e']; rfl, .rd h1, h2⟩
  | .br c x y, f, rs, b, h => by
    rcases Run.br_inv h with ⟨hc, h⟩ | ⟨hc, h⟩
    · obtain ⟨r1, r2, a, e', h1, h2⟩ := Run.bind_inv h
      exact ⟨r1, r2, a, e', .tt hc h1, h2⟩
    · obtain ⟨r1, r2, a, e', h1, h2⟩ := Run.bind_inv h
      exact ⟨r1, r2, a, e', .ff hc h1, h2⟩
  | .call k args l G, f, rs, b, h => by
    obtain ⟨r, hc, h⟩ := Run.call_inv h
    obtain ⟨r1, r2, a, e', h1, h2⟩ := Run.bind_inv h
    exact ⟨r1, r2, a, e', .call hc h1, h2⟩
/-- only what was read counts -/
theorem Run.local {g' : Key → V} : ∀ {m : RM α} {rs : List Key} {a : α}, Run C g m rs a → (∀ k ∈ rs, g' k = g k) → Run C g' m rs a := by
  intro m rs a h
  induction h with
  | ret a => exact fun _ => .ret a
  | rd h ih => exact fun e => .rd (by rw [e _ (by simp)]; exact ih (fun k hk => e k (List.mem_cons_of_mem _ hk)))
  | tt hb h ih => exact fun e => .tt hb (ih e)
  | ff hb h ih => exact fun e => .ff hb (ih e)
  | call hc h ih => exact fun e => .call hc (ih e)
theorem runR_run {kn : Bool} {cf : CallF} {σ : St} {α : Type} (hC : ∀ f args lent κ z, cf f args lent κ = some z → ∃ r, C f args lent r ∧ κ r = some z) : ∀ (m : RM α) (rs : List Key) (k : α → List Key → Option Res) (z : Res), runR kn cf σ m rs k = some z →
    ∃ r a, Run C σ.get m r a ∧ k a (r.reverse ++ rs) = some z
  | .ret a, rs, k, z, h => ⟨[], a, .ret a, h⟩
  | .fail, rs, k, z, h => by cases h
  | .rd key f, rs, k, z, h => by
    obtain ⟨r, a, h1, h2⟩ := runR_run hC (f (σ.get key)) (key :: rs) k z h
    exact ⟨key :: r, a, .rd h1, by rw [List.reverse_cons, List.append_assoc]; exact h2⟩
  | .br b x y, rs, k, z, h => by
    unfold runR at h
    rw [tst_eq] at h
    split at h
    · rename_i hb
      obtain ⟨r, a, h1, h2⟩ := runR_run hC x rs k z h
      exact ⟨r, a, .tt hb h1, h2⟩
    · rename_i hb
      obtain ⟨r, a, h1, h2⟩ := runR_run hC y rs k z h
      exact ⟨r, a, .ff hb h1, h2⟩
  | .call f args lent G, rs, k, z, h => by
    obtain ⟨q, hc, h⟩ := hC f args lent _ z h
    obtain ⟨r, a, h1, h2⟩ := runR_run hC (G q) rs k z h
    exact ⟨r, a, .call hc h1, h2⟩
theorem gputs_lookup : ∀ (ws : WS) (g : Key → V) (k : Key), gputs g ws k = lookup ws k (g k)
  | [], _, _ => rfl
  | (k', u) :: r, g, k => by
    show gputs (gput g k' u) r k = lookup r k (if Key.eqb k' k = true then u else g k)
    rw [gputs_lookup r]; rfl
theorem Run.overW_inv {ws : WS} : ∀ {m : RM α} {rs : List Key} {a : α}, Run C g (overW ws m) rs a → Run C (gputs g ws) m rs a
  | .ret a, rs, b, h => by obtain ⟨e, e'⟩ := Run.ret_inv h; rw [e, e']; exact .ret a
  | .fail, rs, b, h => h.fail_inv.elim
  | .rd k f, rs, b, h => by
    obtain ⟨r, e, h⟩ := Run.rd_inv h
    rw [e]
    refine .rd ?_
    rw [gputs_lookup]
    exact Run.overW_inv h
  | .br c x y, rs, b, h => by
    rcases Run.br_inv h with ⟨hc, h⟩ | ⟨hc, h⟩
    · exact .tt hc (Run.overW_inv h)
    · exact .ff hc (Run.overW_inv h)
  | .call f args l G, rs, b, h => by
    obtain ⟨r, hc, h⟩ := Run.call_inv h
    exact .call hc (Run.overW_inv h)
theorem Run.over_inv {ws : WS} {m : RM α} {rs : List Key} {a : α} (h : Run C g (over ws m) rs a) : Run C (gputs g ws) m rs a := by
  cases ws with
  | nil => exact h
  | cons p r => exact Run.overW_inv h
end
end Go.Proofs.Ytkfphlmbdppbfaa.Vm
