/- QueueNone: nothing can be put, or taken, where there is none: the walk of the law. No condition. -/
import Derived.Test.YtcnoaflojojfkacQueue
namespace Go.Proofs.Ytcnoaflojojfkac.QueueNone
open Go.RowKit Go.Proofs.Ytcnoaflojojfkac.Queue
set_option linter.unusedVariables false
set_option linter.unusedSimpArgs false
set_option maxRecDepth 100000
set_option maxHeartbeats 1000000 in
theorem walk (x : Int) (_wx : (Lit.int .i64 x).wf = true) {w : World} :
    Calls Try.prog 7 #[.int .i64 x] w fun e w' => e = .returned (.bool true) ∧ Fr [] w w' := by
  clear _wx
  go_enter Try.func7, Try.ntmps7
  go_wp2_with (first | (go_at_call 30; refine (take_nil _).mono ?_; rintro e w' ⟨rfl, rfl⟩) | (go_at_call 31; refine (counts_nil _).mono ?_; rintro e w' ⟨rfl, rfl⟩) | (go_at_call 26; refine (close_nil _).mono ?_; rintro e w' ⟨rfl, rfl⟩) | (go_at_call 28; refine (put_nil _ _).mono ?_; rintro e w' ⟨rfl, rfl⟩) | (go_at_call 27; refine (canPut_nil _).mono ?_; rintro e w' ⟨rfl, rfl⟩) | (go_at_call 29; refine (canTake_nil _).mono ?_; rintro e w' ⟨rfl, rfl⟩) | (go_at_call 35; refine (closed_nil _).mono ?_; rintro e w' ⟨rfl, rfl⟩) | (go_at_call 36; refine (done_nil _).mono ?_; rintro e w' ⟨rfl, rfl⟩) | (go_at_call 32; refine (len_nil _).mono ?_; rintro e w' ⟨rfl, rfl⟩) | (go_at_call 33; refine (room_nil _).mono ?_; rintro e w' ⟨rfl, rfl⟩) | (go_at_call 34; refine (most_nil _).mono ?_; rintro e w' ⟨rfl, rfl⟩) | (go_at_call 37; refine (awake_any _).mono ?_; rintro e w1 ⟨rfl, hF1⟩))
  go_ret
  exact ⟨rfl, hF1⟩
end Go.Proofs.Ytcnoaflojojfkac.QueueNone
