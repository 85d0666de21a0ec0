/- A sort of one element does nothing (a step of the statements' own example). -/
import Derived.Test.YtekiccbhjnfciaaIW2
namespace Go.Proofs.Ytekiccbhjnfciaa
open Go.RowKit
def SomeInt (w : World) (e : Ending) (w' : World) : Prop := ∃ k : Int, e = .returned (.int .i64 k) ∧ w = w'
set_option maxRecDepth 100000 in
theorem len98 (n : Int) (h0 : 0 ≤ n) (h1 : n < 65536) (w : World) : Calls Try.prog 98 #[.int .u64 n] w (SomeInt w) := by
  by_cases hs : n < 256
  · go_enter Try.func98, Try.ntmps98
    go_wp2
    go_ret
    exact ⟨_, rfl, rfl⟩
  · go_enter Try.func98, Try.ntmps98
    go_wp2
    go_ret
    exact ⟨_, rfl, rfl⟩

/-- a sort of one element: nothing is done -/
theorem pdq99 (v f : Value) (k : Int) (w : World) : Calls Try.prog 99 #[v, .int .i64 0, .int .i64 1, .int .i64 k, f] w fun e w' => e = .returned (.tuple #[]) ∧ w = w' := by
  go_enter Try.func99, Try.ntmps99
  go_wp2
  refine wp_loop_rounds 1 ?_
  rw [rounds_succ]
  go_wp2_with (go_at_call 115; refine (insert115 _ _ _).mono ?_; rintro e w' ⟨rfl, rfl⟩)
  refine bodyPost_ret (results_none rfl _ _ _) rfl ?_
  exact ⟨rfl, rfl⟩
theorem sortFunc88 (a : Option Addr) (c : Nat) (f : Value) (w : World) : Calls Try.prog 88 #[.slice a 1 c, f] w fun e w' => e = .returned (.tuple #[]) ∧ w = w' := by
  go_enter Try.func88, Try.ntmps88
  go_wp2_with (first | (go_at_call 98; refine (len98 _ (by omega) (by omega) _).mono ?_; rintro e w' ⟨k, rfl, rfl⟩) | (go_at_call 99; refine (pdq99 _ _ _ _).mono ?_; rintro e w' ⟨rfl, rfl⟩))
  go_end0
  exact ⟨rfl, rfl⟩
end Go.Proofs.Ytekiccbhjnfciaa
