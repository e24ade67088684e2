/- SchemaMost is true of every two numbers. No condition. -/
import Derived.Test.YtcnoaflojojfkacSchM
import Derived.Test.YtcnoaflojojfkacSchMName
import Derived.Test.YtcnoaflojojfkacBits
import Derived.KernelRfl
namespace Go.Proofs.Ytcnoaflojojfkac.SchM
open Go Go.Proofs.Ytcnoaflojojfkac.Vm
set_option linter.unusedVariables false
set_option maxRecDepth 100000
def one (b i : Nat) : ByteArray := ⟨#[UInt8.ofNat (b + i)]⟩
def mkF (s : Nat) : List (ByteArray × Int) := (List.range s).map fun j => (one 97 j, (1 : Int))
def mkT (m s : Nat) : List (ByteArray × List (ByteArray × Int)) := (List.range m).map fun i => (one 65 i, mkF s)
theorem mkT_at (m s i : Nat) (hi : i < m) : (mkT m s).getD i zT = (one 65 i, mkF s) := by
  unfold mkT
  rw [List.getD_eq_getElem?_getD, List.getElem?_map, List.getElem?_range hi]; rfl
theorem mkT_len (m s : Nat) : (mkT m s).length = m := by simp [mkT]
theorem mkF_len (s : Nat) : (mkF s).length = s := by simp [mkF]
theorem mkT_fields (m s i : Nat) : ((mkT m s).getD i zT).2.length ≤ s := by
  by_cases hi : i < m
  · rw [mkT_at m s i hi, mkF_len]; exact Nat.le_refl _
  · rw [List.getD_eq_getElem?_getD, List.getElem?_eq_none (by rw [mkT_len]; omega)]
    exact Nat.zero_le _
theorem names16 : ((List.range 16).all fun i => nameB (one 65 i)) = true := by kernel_rfl
theorem apart16 : ((List.range 16).all fun i => (List.range i).all fun q => !((one 65 q).toList == (one 65 i).toList)) = true := by kernel_rfl
theorem good7 : find (badF (mkF 7)) 0 (mkF 7).length = none := by kernel_rfl
theorem good8 : find (badF (mkF 8)) 0 (mkF 8).length = none := by kernel_rfl
theorem good (m s : Nat) (hm : m ≤ 16) (hs : find (badF (mkF s)) 0 (mkF s).length = none) : find (badT (mkT m s)) 0 (mkT m s).length = none := by
  refine find_all _ _ fun i _ hi => ?_
  rw [mkT_len] at hi
  have h1 := names16
  have h2 := apart16
  rw [List.all_eq_true] at h1 h2
  have h1 := h1 i (List.mem_range.2 (by omega))
  have h2 := h2 i (List.mem_range.2 (by omega))
  rw [List.all_eq_true] at h2
  have h3 : find (hitT (mkT m s) (one 65 i)) 0 i = none := find_all _ _ fun q _ hq => by
    unfold hitT
    rw [mkT_at m s q (by omega)]
    have h2 := h2 q (List.mem_range.2 (by omega))
    rw [if_neg (by simpa using h2)]
  unfold badT
  rw [mkT_at m s i (by omega)]
  dsimp only
  rw [h1, hs, h3]
  rfl
theorem T5_good (κ : Bool → Option Res) (l : List (ByteArray × List (ByteArray × Int))) (hl : l.length ≤ 16) (hf : ∀ i, (l.getD i zT).2.length ≤ 8) (hb : find (badT l) 0 l.length = none) : T5 120 κ l 0 = κ true := by
  unfold T5
  rw [F19_eq l hl hf 120 (by omega), hb]
  kernel_rfl
theorem made (m s : Int) (hm : m = 14 ∨ m = 15 ∨ m = 16) (hs : s = 7 ∨ s = 8) (κ : Bool → Option Res) (K : List (ByteArray × List (ByteArray × Int)) × Int → Option Res) :
    L5_0 120 κ [] m s 0 K = K (mkT m.toNat s.toNat, m) := by
  rcases hm with h | h | h <;> rcases hs with h' | h' <;> subst h h' <;> kernel_rfl
theorem T5_five (κ : Bool → Option Res) (l : List (ByteArray × List (ByteArray × Int))) (hl : l.length = 17) : T5 120 κ l 5 = κ true := by
  unfold T5
  rw [show (120 : Nat) = 119 + 1 from rfl, F19, hl]
  kernel_rfl
theorem made17 (s : Int) (hs : s = 7 ∨ s = 8 ∨ s = 9) (κ : Bool → Option Res) (K : List (ByteArray × List (ByteArray × Int)) × Int → Option Res) :
    L5_0 120 κ [] 17 s 0 K = K (mkT 17 s.toNat, 17) := by
  rcases hs with h' | h' | h' <;> subst h' <;> kernel_rfl
theorem end9 (κ : Bool → Option Res) (m : Int) (hm : m = 14 ∨ m = 15 ∨ m = 16 ∨ m = 17) : (L5_0 120 κ [] m 9 0 fun v => if decide (m > (16 : Int)) = true then T5 120 κ v.1 5 else T5 120 κ v.1 1) = κ true := by
  rcases hm with h | h | h | h <;> subst h
  · kernel_rfl
  · kernel_rfl
  · kernel_rfl
  · refine (made17 9 (by omega) κ _).trans ?_
    show (if decide ((17 : Int) > 16) = true then T5 120 κ (mkT 17 9) 5 else T5 120 κ (mkT 17 9) 1) = κ true
    rw [if_pos (by decide)]
    exact T5_five κ _ (mkT_len 17 9)
theorem end8 (κ : Bool → Option Res) (m : Int) (hm : m = 14 ∨ m = 15 ∨ m = 16 ∨ m = 17) : (L5_0 120 κ [] m 8 0 fun v => if decide (m > (16 : Int)) = true then T5 120 κ v.1 5 else T5 120 κ v.1 0) = κ true := by
  rcases hm with h | h | h | h <;> subst h
  · refine (made 14 8 (by omega) (by omega) κ _).trans ?_
    show (if decide ((14 : Int) > 16) = true then T5 120 κ (mkT 14 8) 5 else T5 120 κ (mkT 14 8) 0) = κ true
    rw [if_neg (by decide)]
    exact T5_good κ _ (by rw [mkT_len]; omega) (fun i => Nat.le_trans (mkT_fields 14 8 i) (by omega)) (good 14 8 (by omega) good8)
  · refine (made 15 8 (by omega) (by omega) κ _).trans ?_
    show (if decide ((15 : Int) > 16) = true then T5 120 κ (mkT 15 8) 5 else T5 120 κ (mkT 15 8) 0) = κ true
    rw [if_neg (by decide)]
    exact T5_good κ _ (by rw [mkT_len]; omega) (fun i => Nat.le_trans (mkT_fields 15 8 i) (by omega)) (good 15 8 (by omega) good8)
  · refine (made 16 8 (by omega) (by omega) κ _).trans ?_
    show (if decide ((16 : Int) > 16) = true then T5 120 κ (mkT 16 8) 5 else T5 120 κ (mkT 16 8) 0) = κ true
    rw [if_neg (by decide)]
    exact T5_good κ _ (by rw [mkT_len]; omega) (fun i => Nat.le_trans (mkT_fields 16 8 i) (by omega)) (good 16 8 (by omega) good8)
  · refine (made17 8 (by omega) κ _).trans ?_
    show (if decide ((17 : Int) > 16) = true then T5 120 κ (mkT 17 8) 5 else T5 120 κ (mkT 17 8) 0) = κ true
    rw [if_pos (by decide)]
    exact T5_five κ _ (mkT_len 17 8)
theorem end7 (κ : Bool → Option Res) (m : Int) (hm : m = 14 ∨ m = 15 ∨ m = 16 ∨ m = 17) : (L5_0 120 κ [] m 7 0 fun v => if decide (m > (16 : Int)) = true then T5 120 κ v.1 5 else T5 120 κ v.1 0) = κ true := by
  rcases hm with h | h | h | h <;> subst h
  · refine (made 14 7 (by omega) (by omega) κ _).trans ?_
    show (if decide ((14 : Int) > 16) = true then T5 120 κ (mkT 14 7) 5 else T5 120 κ (mkT 14 7) 0) = κ true
    rw [if_neg (by decide)]
    exact T5_good κ _ (by rw [mkT_len]; omega) (fun i => Nat.le_trans (mkT_fields 14 7 i) (by omega)) (good 14 7 (by omega) good7)
  · refine (made 15 7 (by omega) (by omega) κ _).trans ?_
    show (if decide ((15 : Int) > 16) = true then T5 120 κ (mkT 15 7) 5 else T5 120 κ (mkT 15 7) 0) = κ true
    rw [if_neg (by decide)]
    exact T5_good κ _ (by rw [mkT_len]; omega) (fun i => Nat.le_trans (mkT_fields 15 7 i) (by omega)) (good 15 7 (by omega) good7)
  · refine (made 16 7 (by omega) (by omega) κ _).trans ?_
    show (if decide ((16 : Int) > 16) = true then T5 120 κ (mkT 16 7) 5 else T5 120 κ (mkT 16 7) 0) = κ true
    rw [if_neg (by decide)]
    exact T5_good κ _ (by rw [mkT_len]; omega) (fun i => Nat.le_trans (mkT_fields 16 7 i) (by omega)) (good 16 7 (by omega) good7)
  · refine (made17 7 (by omega) κ _).trans ?_
    show (if decide ((17 : Int) > 16) = true then T5 120 κ (mkT 17 7) 5 else T5 120 κ (mkT 17 7) 0) = κ true
    rw [if_pos (by decide)]
    exact T5_five κ _ (mkT_len 17 7)
theorem F5_true (n f : Int) (κ : Res → Option Res) : (ev Try.prog cfg 121).call 5 [.int .i64 n, .int .i64 f] [] κ = κ (.bool true, []) := by
  rw [F5_ev 120, and3, and1]
  have hm : IntKind.wrap .i64 ((14 : Int) + n % 4) = 14 ∨ IntKind.wrap .i64 ((14 : Int) + n % 4) = 15 ∨ IntKind.wrap .i64 ((14 : Int) + n % 4) = 16 ∨ IntKind.wrap .i64 ((14 : Int) + n % 4) = 17 := by
    rw [Go.IntKind.wrap_i64]; omega
  generalize IntKind.wrap .i64 ((14 : Int) + n % 4) = m at hm
  have hs : IntKind.wrap .i64 ((7 : Int) + f % 2) = 7 ∨ IntKind.wrap .i64 ((7 : Int) + f % 2) = 8 := by
    rw [Go.IntKind.wrap_i64]; omega
  generalize IntKind.wrap .i64 ((7 : Int) + f % 2) = s at hs
  split
  · simp only [post9]
    exact end9 (fun x => κ (.bool x, [])) m hm
  · rcases hs with h | h <;> subst h
    · simp only [post7]
      exact end7 (fun x => κ (.bool x, [])) m hm
    · simp only [post8]
      exact end8 (fun x => κ (.bool x, [])) m hm
end Go.Proofs.Ytcnoaflojojfkac.SchM
