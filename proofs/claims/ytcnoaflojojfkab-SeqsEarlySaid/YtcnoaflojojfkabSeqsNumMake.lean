/- What makes the numbered iterator. No condition. -/
import Derived.Test.YtcnoaflojojfkabSeqsNum
namespace Go.Proofs.Ytcnoaflojojfkab.Seqs
open Go.RowKit Go.Shelf
set_option linter.unusedVariables false
set_option linter.unusedSimpArgs false
set_option maxRecDepth 100000
attribute [local go_sem] Oper.semAt_some eq_fn eq_nil

/-- v is an iterator over the pairs ps, and reads the blocks D alone -/
def ItN (w : World) (D : List Nat) (v : Value) (ps : List (Int × Int)) (n : Nat) : Prop :=
  ∃ gf lb, v = .func (.func gf) #[] lb ∧ (∀ args w, (callFunc gf args).run Try.prog w = .ok (.enter gf args) w) ∧ (∀ b ∈ D, b < w.heap.size) ∧
    ∀ (w' : World) (O0 : Nat → Prop), w.heap.size ≤ w'.heap.size → (∀ b ∈ D, w'.heap[b]? = w.heap[b]?) → (∀ b, O0 b → b < w'.heap.size) → (∀ b ∈ D, ¬ O0 b) →
      SeqT Try.prog gf lb (fun p : Int × Int => #[.int .i64 p.1, .int .i64 p.2]) [] O0 (fun ys _ => ys = ps) (fun pre _ => pre <+: ps) n w'

set_option maxHeartbeats 1000000 in
theorem num_it (D : List Nat) (f : Value) (xs : List Int) (w : World) (hi : It w D f xs) (hx : xs.length ≤ 100000) :
    Calls Try.prog 39 #[f] w fun e w' => (∃ h, e = .returned h ∧ ItN w' (w.heap.size :: D) h (nums xs) xs.length) ∧ Fr [] w w' := by
  have f0 : Fr [] w (w.alloc (.cells #[f] 36)) := (Fr.refl _ _).alloc _
  have HI := Lib.hid (hi.fr0 f0)
  have HB1 : Hid (Blk (w.alloc (.cells #[f] 36)) w.heap.size [f] 36) := Lib.hid (Blk.new w [f] 36)
  have HF := Lib.hid f0
  obtain ⟨gf, lb, rfl, _, hDs, _⟩ := hi
  have HDs : Hid (∀ b ∈ D, b < w.heap.size) := Lib.hid (by exact hDs)
  clear f0 hDs
  go_enter Try.func39, Try.ntmps39
  go_wp2
  go_ret
  refine ⟨⟨_, rfl, _, _, rfl, enters_of Try.func70 (by kernel_rfl) rfl, ?_, fun w' O0 h1 h2 h3 h4 => ?_⟩, HF.out⟩
  · intro b hb
    have h1 := HB1.out.lt
    rcases List.mem_cons.1 hb with rfl | hb
    · exact h1
    · exact Nat.lt_of_lt_of_le (HDs.out b hb) HF.out.size
  · exact num_stops _ D _ xs _ w' O0 HB1.out HI.out hx h1 h2 h3 h4
end Go.Proofs.Ytcnoaflojojfkab.Seqs
