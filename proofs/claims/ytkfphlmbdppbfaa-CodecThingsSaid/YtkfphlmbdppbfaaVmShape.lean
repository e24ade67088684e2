/- Shapes of the machine's values: what a loop's head and a call look like, and the numbers and lists out of them. No condition. -/
import Derived.Test.YtkfphlmbdppbfaaVm
namespace Go.Proofs.Ytkfphlmbdppbfaa.Vm
open Go
set_option linter.unusedVariables false
set_option linter.unusedSimpArgs false

inductive SP where
  | undef : SP
  | skip : SP
  | dead : SP
  | int (k : IntKind) : SP
  | bool : SP
  | str : SP
  | list (t : Ty) (o : Own) : SP
  | nils : SP
  | ref (b off : Nat) : SP
  | nilp : SP
  | elt (t : Ty) (off : Nat) : SP
  | alias (k : Key) : SP
  | nilf : SP
/-- a part of a tuple -/
inductive SB where
  | one (s : SP) : SB
  | agg (l : List SP) : SB
inductive SC where
  | one (s : SP) : SC
  | agg (l : List SP) : SC
  | fn (f : FuncId) (l : List SP) : SC
  | tup (l : List SB) : SC
def intOf : V → Int
  | .int _ n => n
  | _ => 0
def boolOf : V → Bool
  | .bool b => b
  | _ => false
def stringOf : V → ByteArray
  | .str s => s
  | _ => ⟨#[]⟩
def listOf (t : Ty) : V → List t.den
  | .list t' xs _ => match Ty.eq? t' t with
    | some h => castL h.down xs
    | none => []
  | _ => []
def eltOf (t : Ty) : V → t.den
  | .elt t' x _ => match Ty.eq? t' t with
    | some h => h.down ▸ x
    | none => t.zero
  | _ => t.zero
def aggOf : V → List V
  | .agg cs => cs
  | .fn _ cs => cs
  | .tup cs => cs
  | _ => []
def ownEq : Own → Own → Bool
  | .no, .no => true
  | .nil, .nil => true
  | .own s f, .own s' f' => (s == s') && (f == f')
  | _, _ => false
def tyEq (a b : Ty) : Bool := match Ty.eq? a b with
  | some _ => true
  | none => false
def kindEq (a b : IntKind) : Bool := match kEq a b with
  | some _ => true
  | none => false
def ok1 : SP → V → Bool
  | .undef, .undef => true
  | .skip, .skip => true
  | .dead, .dead => true
  | .int k, .int k' _ => kindEq k' k
  | .bool, .bool _ => true
  | .str, .str _ => true
  | .list t o, .list t' _ o' => tyEq t' t && ownEq o' o
  | .nils, .nils => true
  | .ref b o, .ref b' o' => Nat.beq b' b && Nat.beq o' o
  | .nilp, .nilp => true
  | .elt t o, .elt t' _ o' => tyEq t' t && Nat.beq o' o
  | .alias k, .alias k' => Key.eqb k' k
  | .nilf, .nilf => true
  | _, _ => false
def mk1 : SP → V → V
  | .undef, _ => .undef
  | .skip, _ => .skip
  | .dead, _ => .dead
  | .int k, v => .int k (intOf v)
  | .bool, v => .bool (boolOf v)
  | .str, v => .str (stringOf v)
  | .list t o, v => .list t (listOf t v) o
  | .nils, _ => .nils
  | .ref b o, _ => .ref b o
  | .nilp, _ => .nilp
  | .elt t o, v => .elt t (eltOf t v) o
  | .alias k, _ => .alias k
  | .nilf, _ => .nilf
def okL : List SP → List V → Bool
  | [], [] => true
  | s :: ss, v :: vs => ok1 s v && okL ss vs
  | _, _ => false
def mkL : List SP → Nat → List V → List V
  | [], _, _ => []
  | s :: ss, n, vs => mk1 s (nth vs n) :: mkL ss (n + 1) vs
def okD : SB → V → Bool
  | .one s, v => ok1 s v
  | .agg l, .agg cs => okL l cs
  | _, _ => false
def mkD : SB → V → V
  | .one s, v => mk1 s v
  | .agg l, v => .agg (mkL l 0 (aggOf v))
def okT : List SB → List V → Bool
  | [], [] => true
  | s :: ss, v :: vs => okD s v && okT ss vs
  | _, _ => false
def mkT : List SB → Nat → List V → List V
  | [], _, _ => []
  | s :: ss, n, vs => mkD s (nth vs n) :: mkT ss (n + 1) vs
def ok2 : SC → V → Bool
  | .one s, v => ok1 s v
  | .agg l, .agg cs => okL l cs
  | .fn f l, .fn g cs => Nat.beq g f && okL l cs
  | .tup l, .tup cs => okT l cs
  | _, _ => false
def mk2 : SC → V → V
  | .one s, v => mk1 s v
  | .agg l, v => .agg (mkL l 0 (aggOf v))
  | .fn f l, v => .fn f (mkL l 0 (aggOf v))
  | .tup l, v => .tup (mkT l 0 (aggOf v))
def okC : List SC → List V → Bool
  | [], [] => true
  | s :: ss, v :: vs => ok2 s v && okC ss vs
  | _, _ => false
def mkC : List SC → Nat → List V → List V
  | [], _, _ => []
  | s :: ss, n, vs => mk2 s (nth vs n) :: mkC ss (n + 1) vs
def okB : List (List SC) → List Box → Bool
  | [], [] => true
  | s :: ss, v :: vs => okC s v && okB ss vs
  | _, _ => false
def mkB : List (List SC) → Nat → List Box → List Box
  | [], _, _ => []
  | s :: ss, n, vs => mkC s 0 (nthB vs n) :: mkB ss (n + 1) vs
def okTr {α β : Type} (p : β → α → Bool) : Tr β → Tr α → Bool
  | .e, .e => true
  | .n s l r, .n v l' r' => p s v && (okTr p l l' && okTr p r r')
  | _, _ => false
def mkTr {α β γ : Type} (m : β → α → γ) (d : α) : Tr β → Tr α → Tr γ
  | .e, _ => .e
  | .n s l r, t => .n (m s (t.val d)) (mkTr m d l t.lft) (mkTr m d r t.rgt)
theorem okTr_eq {α β : Type} {p : β → α → Bool} {m : β → α → α} (d : α) (h : ∀ s v, p s v = true → v = m s v) : ∀ {s : Tr β} {t : Tr α}, okTr p s t = true → t = mkTr m d s t
  | .e, .e, _ => rfl
  | .n s l r, .n v l' r', hk => by
    simp only [okTr, Bool.and_eq_true] at hk
    show Tr.n v l' r' = Tr.n (m s v) (mkTr m d l l') (mkTr m d r r')
    rw [← h s v hk.1, ← okTr_eq d h hk.2.1, ← okTr_eq d h hk.2.2]
def okSt (n : Nat) (sl : Tr SC) (bx : Tr (List SC)) (σ : St) : Bool := Nat.beq σ.n n && (okTr ok2 sl σ.slots && okTr okC bx σ.boxes)
def mkSt (n : Nat) (sl : Tr SC) (bx : Tr (List SC)) (σ : St) : St := ⟨n, mkTr mk2 .undef sl σ.slots, mkTr (fun s v => mkC s 0 v) [] bx σ.boxes⟩
theorem kindEq_eq {a b : IntKind} (h : kindEq a b = true) : a = b := by
  unfold kindEq at h; split at h
  · rename_i h' _; exact h'.down
  · cases h
theorem tyEq_eq {a b : Ty} (h : tyEq a b = true) : a = b := by
  unfold tyEq at h; split at h
  · rename_i h' _; exact h'.down
  · cases h
theorem ownEq_eq : ∀ {a b : Own}, ownEq a b = true → a = b
  | .no, .no, _ => rfl
  | .nil, .nil, _ => rfl
  | .own s f, .own s' f', h => by
    simp only [ownEq, Bool.and_eq_true, beq_iff_eq] at h
    rw [h.1, h.2]
theorem Ty.eq?_self : ∀ t : Ty, Ty.eq? t t = some ⟨rfl⟩
  | .int k => by simp [Ty.eq?, kEq]
  | .bool => rfl
  | .str => rfl
  | .unit => rfl
  | .pair a b => by simp [Ty.eq?, Ty.eq?_self a, Ty.eq?_self b]
  | .list t => by simp [Ty.eq?, Ty.eq?_self t]
theorem ok1_eq : ∀ {s : SP} {v : V}, ok1 s v = true → v = mk1 s v
  | .undef, .undef, _ => rfl
  | .skip, .skip, _ => rfl
  | .dead, .dead, _ => rfl
  | .int k, .int k' n, h => by rw [kindEq_eq h]; rfl
  | .bool, .bool _, _ => rfl
  | .str, .str _, _ => rfl
  | .list t o, .list t' xs o', h => by
    simp only [ok1, Bool.and_eq_true] at h
    obtain rfl := tyEq_eq h.1
    obtain rfl := ownEq_eq h.2
    simp [mk1, listOf, Ty.eq?_self, castL]
  | .nils, .nils, _ => rfl
  | .ref b o, .ref b' o', h => by
    simp only [ok1, Bool.and_eq_true] at h
    rw [Nat.eq_of_beq_eq_true h.1, Nat.eq_of_beq_eq_true h.2]; rfl
  | .nilp, .nilp, _ => rfl
  | .elt t o, .elt t' x o', h => by
    simp only [ok1, Bool.and_eq_true] at h
    obtain rfl := tyEq_eq h.1
    rw [Nat.eq_of_beq_eq_true h.2]
    simp [mk1, eltOf, Ty.eq?_self]
  | .alias k, .alias k', h => by rw [Key.eqb_eq h]; rfl
  | .nilf, .nilf, _ => rfl
theorem nth_drop : ∀ (vs : List V) (n i : Nat), nth (vs.drop n) i = nth vs (n + i)
  | [], n, i => by simp [nth]
  | v :: vs, 0, i => by simp
  | v :: vs, n + 1, i => by
    rw [List.drop_succ_cons, nth_drop vs n i, show n + 1 + i = (n + i) + 1 by omega]; rfl
theorem nthB_drop : ∀ (vs : List Box) (n i : Nat), nthB (vs.drop n) i = nthB vs (n + i)
  | [], n, i => by simp [nthB]
  | v :: vs, 0, i => by simp
  | v :: vs, n + 1, i => by
    rw [List.drop_succ_cons, nthB_drop vs n i, show n + 1 + i = (n + i) + 1 by omega]; rfl
theorem okL_at : ∀ {l : List SP} {us vs : List V} {n : Nat}, okL l us = true → (∀ i, nth vs (n + i) = nth us i) → us = mkL l n vs
  | [], [], _, _, _, _ => rfl
  | s :: ss, v :: us, vs, n, h, hn => by
    simp only [okL, Bool.and_eq_true] at h
    show v :: us = mk1 s (nth vs n) :: mkL ss (n + 1) vs
    rw [show nth vs n = v from hn 0, ← ok1_eq h.1, ← okL_at h.2 (fun i => by rw [show n + 1 + i = n + (i + 1) by omega, hn]; rfl)]
theorem okL_eq {l : List SP} {vs : List V} (h : okL l vs = true) : vs = mkL l 0 vs := okL_at h (fun i => by rw [Nat.zero_add])
theorem okD_eq : ∀ {s : SB} {v : V}, okD s v = true → v = mkD s v
  | .one s, v, h => ok1_eq h
  | .agg l, .agg cs, h => by
    show V.agg cs = V.agg (mkL l 0 cs)
    rw [← okL_eq h]
theorem okT_at : ∀ {l : List SB} {us vs : List V} {n : Nat}, okT l us = true → (∀ i, nth vs (n + i) = nth us i) → us = mkT l n vs
  | [], [], _, _, _, _ => rfl
  | s :: ss, v :: us, vs, n, h, hn => by
    simp only [okT, Bool.and_eq_true] at h
    show v :: us = mkD s (nth vs n) :: mkT ss (n + 1) vs
    rw [show nth vs n = v from hn 0, ← okD_eq h.1, ← okT_at h.2 (fun i => by rw [show n + 1 + i = n + (i + 1) by omega, hn]; rfl)]
theorem ok2_eq : ∀ {s : SC} {v : V}, ok2 s v = true → v = mk2 s v
  | .one s, v, h => ok1_eq h
  | .agg l, .agg cs, h => by
    show V.agg cs = V.agg (mkL l 0 cs)
    rw [← okL_eq h]
  | .fn f l, .fn g cs, h => by
    simp only [ok2, Bool.and_eq_true] at h
    obtain ⟨h0, h⟩ := h
    obtain rfl := Nat.eq_of_beq_eq_true h0
    show V.fn g cs = V.fn g (mkL l 0 cs)
    rw [← okL_eq h]
  | .tup l, .tup cs, h => by
    show V.tup cs = V.tup (mkT l 0 cs)
    rw [← okT_at h (fun i => by rw [Nat.zero_add])]
theorem okC_at : ∀ {l : List SC} {us vs : List V} {n : Nat}, okC l us = true → (∀ i, nth vs (n + i) = nth us i) → us = mkC l n vs
  | [], [], _, _, _, _ => rfl
  | s :: ss, v :: us, vs, n, h, hn => by
    simp only [okC, Bool.and_eq_true] at h
    show v :: us = mk2 s (nth vs n) :: mkC ss (n + 1) vs
    rw [show nth vs n = v from hn 0, ← ok2_eq h.1, ← okC_at h.2 (fun i => by rw [show n + 1 + i = n + (i + 1) by omega, hn]; rfl)]
theorem okC_eq {l : List SC} {vs : List V} (h : okC l vs = true) : vs = mkC l 0 vs := okC_at h (fun i => by rw [Nat.zero_add])
theorem okB_at : ∀ {l : List (List SC)} {us vs : List Box} {n : Nat}, okB l us = true → (∀ i, nthB vs (n + i) = nthB us i) → us = mkB l n vs
  | [], [], _, _, _, _ => rfl
  | s :: ss, v :: us, vs, n, h, hn => by
    simp only [okB, Bool.and_eq_true] at h
    show v :: us = mkC s 0 (nthB vs n) :: mkB ss (n + 1) vs
    rw [show nthB vs n = v from hn 0, ← okC_eq h.1, ← okB_at h.2 (fun i => by rw [show n + 1 + i = n + (i + 1) by omega, hn]; rfl)]
theorem okB_eq {l : List (List SC)} {vs : List Box} (h : okB l vs = true) : vs = mkB l 0 vs := okB_at h (fun i => by rw [Nat.zero_add])
theorem okSt_eq {n : Nat} {sl : Tr SC} {bx : Tr (List SC)} {σ : St} (h : okSt n sl bx σ = true) : σ = mkSt n sl bx σ := by
  simp only [okSt, Bool.and_eq_true] at h
  obtain ⟨m, s, b⟩ := σ
  show St.mk m s b = St.mk n (mkTr mk2 .undef sl s) (mkTr (fun s v => mkC s 0 v) [] bx b)
  rw [← okTr_eq .undef (fun s v => ok2_eq) h.2.1, ← okTr_eq [] (fun s v => okC_eq) h.2.2]
  have : m = n := Nat.eq_of_beq_eq_true h.1
  rw [this]
theorem chk1_eq (x : Option Res) : chk1 x = x := if_pos rfl
theorem chk2_eq (x : Option Res) : chk2 x = x := (chk1_eq (chk1 x)).trans (chk1_eq x)
theorem chk3_eq (x : Option Res) : chk3 x = x := (chk1_eq (chk2 x)).trans (chk2_eq x)
theorem chk4_eq (x : Option Res) : chk4 x = x := (chk1_eq (chk3 x)).trans (chk3_eq x)
theorem chk5_eq (x : Option Res) : chk5 x = x := (chk1_eq (chk4 x)).trans (chk4_eq x)
theorem chk6_eq (x : Option Res) : chk6 x = x := (chk1_eq (chk5 x)).trans (chk5_eq x)
theorem chk7_eq (x : Option Res) : chk7 x = x := (chk1_eq (chk6 x)).trans (chk6_eq x)
theorem chk8_eq (x : Option Res) : chk8 x = x := (chk1_eq (chk7 x)).trans (chk7_eq x)
/-- which way a list of turns is -/
def pathEq : List Bool → List Bool → Bool
  | [], [] => true
  | true :: p, true :: q => pathEq p q
  | false :: p, false :: q => pathEq p q
  | _, _ => false
theorem pathEq_eq : ∀ {p q : List Bool}, pathEq p q = true → p = q
  | [], [], _ => rfl
  | true :: p, true :: q, h => by rw [pathEq_eq (p := p) (q := q) h]
  | false :: p, false :: q, h => by rw [pathEq_eq (p := p) (q := q) h]
end Go.Proofs.Ytkfphlmbdppbfaa.Vm
