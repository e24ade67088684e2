/- What the picks make comes to its kind, whatever the scope: the loop of typing.Kind goes over each predicate. No condition. -/
import Derived.Test.YtfdgjpeanffknaaChMMay
namespace Go.Proofs.Ytfdgjpeanffknaa.ChM
open Go Go.Proofs.Ytfdgjpeanffknaa.Vm
set_option linter.unusedVariables false
set_option linter.unusedSimpArgs false
set_option maxRecDepth 100000
abbrev types : T5 := [((⟨#[65]⟩ : ByteArray), ([((⟨#[120]⟩ : ByteArray), (1 : Int)), ((⟨#[115]⟩ : ByteArray), (2 : Int))] : List (ByteArray × Int))), ((⟨#[66]⟩ : ByteArray), ([((⟨#[120]⟩ : ByteArray), (1 : Int)), ((⟨#[115]⟩ : ByteArray), (2 : Int))] : List (ByteArray × Int))), ((⟨#[67]⟩ : ByteArray), ([((⟨#[115]⟩ : ByteArray), (2 : Int)), ((⟨#[120]⟩ : ByteArray), (1 : Int)), ((⟨#[98]⟩ : ByteArray), (3 : Int))] : List (ByteArray × Int)))]
/-- a scope in which these variables have fields of a number and of a text -/
def isScope (V : ByteArray → Prop) (sc : T3) : Prop := ∀ v, V v → ∀ k, 60 ≤ k → (∀ κ, F34v1 k sc (nfld v ⟨#[120]⟩) types κ = κ (1, (0, types))) ∧ ∀ κ, F34v1 k sc (nfld v ⟨#[115]⟩) types κ = κ (2, (0, types))
theorem guard3 (a b : Nat) : (true && (decide ((0 : Int) ≤ (a : Int)) && (decide ((a : Int) ≤ ((a + b : Nat) : Int)) && decide ((a : Int) = (a : Int))))) = true := by simp; omega
theorem guard2 (a b : Nat) : ((true && decide ((0 : Int) ≤ (a : Int))) && (decide ((a : Int) ≤ ((a + b : Nat) : Int)) && decide (((a + b : Nat) : Int) ≤ ((a + b : Nat) : Int)))) = true := by simp; omega
theorem wr1 {i : Nat} (h : i < 1000) : IntKind.wrap .i64 ((i : Int) + 1) = ((i + 1 : Nat) : Int) := by rw [wrn (by omega) (by omega)]; omega
theorem kind_con {nd : T7} (k : Nat) (κ : Int × Int × T5 → Option Res) (sc : T3) (st : List Int) (L : List T7) (i : Nat) (T : T5) (K : (List Int) × Int × T5 → Option Res)
    (hi : i < L.length) (hL : L.length ≤ 100) (hst : st.length ≤ 100) (hnd : L.getD i zN = nd) (h1 : (nd.1 == 1) = true) (hP : ∀ κ, F33 k nd.1 κ = κ 0) (hc : ¬ (nd.2.1.1 == 0) = true) :
    L24v1_0 (k + 1) κ sc st L (L.length : Int) (i : Int) T K = L24v1_0 k κ sc (st ++ [nd.2.1.1]) L (L.length : Int) ((i + 1 : Nat) : Int) T K := by
  have hat : IntKind.wrap .i64 ((st.length : Int) - 0) = (st.length : Int) := by rw [wrn (by omega) (by omega)]; omega
  have hg := guard3 st.length 0
  rw [Nat.add_zero] at hg
  rw [L24v1_0, L24v1_0_B]
  simp only [chk1_eq, chk2_eq, chk3_eq, chk4_eq, chk5_eq, chk6_eq, chk7_eq, chk8_eq, lt_t hi, nn, Bool.and_true, Int.toNat_natCast, if_true, hnd, hP, h1, hat]
  rw [if_neg hc, if_pos (by simp), if_pos (decide_eq_true (by simp; omega)), wr1 (by omega)]
  simp
theorem kind_fld {nd : T7} {c : Int} (k : Nat) (κ : Int × Int × T5 → Option Res) (sc : T3) (st : List Int) (L : List T7) (i : Nat) (T : T5) (K : (List Int) × Int × T5 → Option Res)
    (hi : i < L.length) (hL : L.length ≤ 100) (hst : st.length ≤ 100) (hnd : L.getD i zN = nd) (h1 : ¬ (nd.1 == 1) = true) (h2 : (nd.1 == 2) = true) (hP : ∀ κ, F33 k nd.1 κ = κ 0) (hF : ∀ κ, F34v1 k sc nd T κ = κ (c, (0, T))) (hc : ¬ (c == 0) = true) :
    L24v1_0 (k + 1) κ sc st L (L.length : Int) (i : Int) T K = L24v1_0 k κ sc (st ++ [c]) L (L.length : Int) ((i + 1 : Nat) : Int) T K := by
  have hat : IntKind.wrap .i64 ((st.length : Int) - 0) = (st.length : Int) := by rw [wrn (by omega) (by omega)]; omega
  rw [L24v1_0, L24v1_0_B]
  simp only [chk1_eq, chk2_eq, chk3_eq, chk4_eq, chk5_eq, chk6_eq, chk7_eq, chk8_eq, lt_t hi, nn, Bool.and_true, Int.toNat_natCast, if_true, hnd, hP, h2, hat, eta2, hF]
  rw [if_neg h1, if_neg (by simp), if_neg hc, if_pos (by simp), if_pos (decide_eq_true (by simp; omega)), wr1 (by omega)]
  simp
theorem kind_op {nd : T7} {c : Int} {args : List Int} (k : Nat) (κ : Int × Int × T5 → Option Res) (sc : T3) (st : List Int) (L : List T7) (i : Nat) (T : T5) (K : (List Int) × Int × T5 → Option Res)
    (hi : i < L.length) (hL : L.length ≤ 100) (hst : st.length ≤ 100) (ha : args.length ≤ 2) (hnd : L.getD i zN = nd) (h1 : ¬ (nd.1 == 1) = true) (h2 : ¬ (nd.1 == 2) = true) (hP : ∀ κ, F33 k nd.1 κ = κ (args.length : Int)) (hF : ∀ κ, F35 k nd.1 args κ = κ c) (hc : ¬ (c == 0) = true) :
    L24v1_0 (k + 1) κ sc (st ++ args) L (L.length : Int) (i : Int) T K = L24v1_0 k κ sc (st ++ [c]) L (L.length : Int) ((i + 1 : Nat) : Int) T K := by
  have hat : IntKind.wrap .i64 (((st ++ args).length : Int) - (args.length : Int)) = (st.length : Int) := by rw [List.length_append, wrn (by omega) (by omega)]; omega
  have e1 : (List.take (st ++ args).length (st ++ args)).drop st.length = args := by rw [List.take_length, List.drop_left]
  have e2 : List.take st.length (st ++ args) = st := List.take_left
  rw [L24v1_0, L24v1_0_B]
  simp only [chk1_eq, chk2_eq, chk3_eq, chk4_eq, chk5_eq, chk6_eq, chk7_eq, chk8_eq, lt_t hi, nn, Bool.and_true, Int.toNat_natCast, if_true, hnd, hP, hat, e1, hF, e2]
  rw [if_neg h1, if_neg h2, if_pos (by simp; omega), if_neg hc, if_pos (by simp; omega), if_pos (decide_eq_true (by simp; omega)), wr1 (by omega)]
  simp
def KindQ (V : ByteArray → Prop) (X : List T7) (c : Int) : Prop := ∀ (k : Nat) (_ : 60 ≤ k) (κ : Int × Int × T5 → Option Res) (sc : T3) (_ : isScope V sc) (L : List T7) (i : Nat) (st : List Int) (_ : L.length ≤ 100) (_ : st.length + X.length ≤ 100) (_ : At L i X) (K : (List Int) × Int × T5 → Option Res),
  L24v1_0 (k + X.length) κ sc st L (L.length : Int) (i : Int) types K = L24v1_0 k κ sc (st ++ [c]) L (L.length : Int) ((i + X.length : Nat) : Int) types K
theorem KindQ.con {V : ByteArray → Prop} {v : T2} (hP : NdOk (ncon v) 0) (hc : ¬ (v.1 == 0) = true) : KindQ V [ncon v] v.1 := fun k hk κ sc hs L i st hL hst hA K =>
  kind_con (nd := ncon v) k κ sc st L i types K hA.one.1 hL (by omega) hA.one.2 rfl (hP k hk).1 hc
theorem KindQ.fld {V : ByteArray → Prop} {v f : ByteArray} {c : Int} (hP : NdOk (nfld v f) 0) (hF : ∀ k, 60 ≤ k → ∀ sc, isScope V sc → ∀ κ, F34v1 k sc (nfld v f) types κ = κ (c, (0, types))) (hc : ¬ (c == 0) = true) : KindQ V [nfld v f] c := fun k hk κ sc hs L i st hL hst hA K =>
  kind_fld (nd := nfld v f) k κ sc st L i types K hA.one.1 hL (by omega) hA.one.2 (by simp) rfl (hP k hk).1 (hF k hk sc hs) hc
theorem KindQ.un {V : ByteArray → Prop} {X : List T7} {a op c : Int} (h : KindQ V X a) (hP : NdOk (nop op) 1) (h1 : ¬ (op == 1) = true) (h2 : ¬ (op == 2) = true) (hF : ∀ k, 60 ≤ k → ∀ κ, F35 k op [a] κ = κ c) (hc : ¬ (c == 0) = true) : KindQ V (X ++ [nop op]) c := fun k hk κ sc hs L i st hL hst hA K => by
  simp only [List.length_append, List.length_cons, List.length_nil] at hst ⊢
  rw [show k + (X.length + (0 + 1)) = (k + 1) + X.length by omega, h (k + 1) (by omega) κ sc hs L i st hL (by omega) hA.left K,
    kind_op (nd := nop op) (args := [a]) k κ sc st L (i + X.length) types K hA.right.one.1 hL (by omega) (by simp) hA.right.one.2 h1 h2 (hP k hk).1 (hF k hk) hc, show i + X.length + 1 = i + (X.length + (0 + 1)) by omega]
theorem KindQ.bin {V : ByteArray → Prop} {X Y : List T7} {a b op c : Int} (h : KindQ V X a) (h' : KindQ V Y b) (hP : NdOk (nop op) 2) (h1 : ¬ (op == 1) = true) (h2 : ¬ (op == 2) = true) (hF : ∀ k, 60 ≤ k → ∀ κ, F35 k op [a, b] κ = κ c) (hc : ¬ (c == 0) = true) : KindQ V ((X ++ Y) ++ [nop op]) c := fun k hk κ sc hs L i st hL hst hA K => by
  have hA2 := hA.right
  simp only [List.length_append, List.length_cons, List.length_nil] at hst hA2 ⊢
  rw [show k + (X.length + Y.length + (0 + 1)) = ((k + 1) + Y.length) + X.length by omega, h ((k + 1) + Y.length) (by omega) κ sc hs L i st hL (by omega) hA.left.left K,
    h' (k + 1) (by omega) κ sc hs L (i + X.length) (st ++ [a]) hL (by simp; omega) hA.left.right K, List.append_assoc]
  have hs' := kind_op (nd := nop op) (args := [a, b]) k κ sc st L (i + (X.length + Y.length)) types K hA2.one.1 hL (by omega) (by simp) hA2.one.2 h1 h2 (hP k hk).1 (hF k hk) hc
  rw [show i + X.length + Y.length = i + (X.length + Y.length) by omega]
  exact hs'.trans (by rw [show i + (X.length + Y.length) + 1 = i + (X.length + Y.length + (0 + 1)) by omega])
theorem ap (k : Nat) (hk : 60 ≤ k) : ∃ k', k = k' + 60 := ⟨k - 60, by omega⟩
theorem kind_gen {V : ByteArray → Prop} (hV : ∀ v, V v → isVar v) {X : List T7} {c : Int} (h : Gen V X c) : KindQ V X c := by
  induction h with
  | num n h => exact .con (nd_num h) (by simp)
  | tru b => exact .con (nd_tru b) (by simp)
  | txt s h => exact .con (nd_txt h) (by simp)
  | fx v h => exact .fld (nd_fld (hV _ h) (.inl rfl)) (fun k hk sc hs κ => (hs v h k hk).1 κ) (by decide)
  | fs v h => exact .fld (nd_fld (hV _ h) (.inr rfl)) (fun k hk sc hs κ => (hs v h k hk).2 κ) (by decide)
  | neg h ih => exact ih.un (nd_op1 (.inl rfl)) (by decide) (by decide) (fun k hk κ => by obtain ⟨k, rfl⟩ := ap k hk; kernel_rfl) (by decide)
  | arith op ho h h' ih ih' => exact ih.bin ih' (nd_op2 (by omega)) (by simp; omega) (by simp; omega) (fun k hk κ => by obtain ⟨k, rfl⟩ := ap k hk; rcases ho with rfl | rfl | rfl <;> kernel_rfl) (by decide)
  | cmp op c ho hc h h' ih ih' => exact ih.bin ih' (nd_op2 (by omega)) (by simp; omega) (by simp; omega) (fun k hk κ => by obtain ⟨k, rfl⟩ := ap k hk; rcases ho with rfl | rfl | rfl | rfl | rfl | rfl <;> rcases hc with rfl | rfl <;> kernel_rfl) (by decide)
  | not h ih => exact ih.un (nd_op1 (.inr rfl)) (by decide) (by decide) (fun k hk κ => by obtain ⟨k, rfl⟩ := ap k hk; kernel_rfl) (by decide)
  | log op ho h h' ih ih' => exact ih.bin ih' (nd_op2 (by omega)) (by simp; omega) (by simp; omega) (fun k hk κ => by obtain ⟨k, rfl⟩ := ap k hk; rcases ho with rfl | rfl <;> kernel_rfl) (by decide)
theorem F24_gen {V : ByteArray → Prop} (hV : ∀ v, V v → isVar v) {X : List T7} {c : Int} (h : Gen V X c) (hX : X.length ≤ 64) {sc : T3} (hs : isScope V sc) (k : Nat) (hk : 64 + X.length ≤ k) (κ : Int × Int × T5 → Option Res) : F24v1 k sc X types κ = κ (c, (0, types)) := by
  obtain ⟨k, rfl⟩ : ∃ k', k = (k' + 1 + X.length) + 1 := ⟨k - X.length - 2, by omega⟩
  rw [F24v1, F24v1_B]
  simp only [chk1_eq, chk2_eq, chk3_eq, chk4_eq, chk5_eq, chk6_eq, chk7_eq, chk8_eq, F32_gen hV h hX (k + 1 + X.length) (by omega)]
  rw [if_neg (by simp), show (0 : Int) = ((0 : Nat) : Int) from rfl, kind_gen hV h (k + 1) (by omega) κ sc hs X 0 [] (by omega) (by simp; omega) (At.self X), L24v1_0, L24v1_0_B]
  simp only [chk1_eq, chk2_eq, chk3_eq, chk4_eq, chk5_eq, chk6_eq, chk7_eq, chk8_eq, Nat.zero_add, lt_f, Bool.false_eq_true, if_false]
  rfl
end Go.Proofs.Ytfdgjpeanffknaa.ChM
