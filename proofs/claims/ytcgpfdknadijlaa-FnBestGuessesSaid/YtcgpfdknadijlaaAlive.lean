/- The fixed answer that every law of this text asks. -/
import Derived.Test.YtcgpfdknadijlaaProg
import Derived.Test.YtcgpfdknadijlaaBase
namespace Go.Proofs.Ytcgpfdknadijlaa
open Go.RowKit

set_option maxRecDepth 100000 in
theorem least8 (w : World) : Calls Try.prog 26 #[.int .i64 8] w fun e w' => e = .returned (.int .i64 3) ∧ w' = w := by
  go_enter Try.func26, Try.ntmps26
  go_wp2
  refine wp_loop_rounds 4 ?_
  rw [rounds_succ]
  go_wp2
  rw [rounds_succ]
  go_wp2
  rw [rounds_succ]
  go_wp2
  rw [rounds_succ]
  go_wp2
  go_ret
  exact ⟨rfl, rfl⟩

set_option maxRecDepth 100000 in
theorem least9 (w : World) : Calls Try.prog 26 #[.int .i64 9] w fun e w' => e = .returned (.int .i64 4) ∧ w' = w := by
  go_enter Try.func26, Try.ntmps26
  go_wp2
  refine wp_loop_rounds 5 ?_
  rw [rounds_succ]
  go_wp2
  rw [rounds_succ]
  go_wp2
  rw [rounds_succ]
  go_wp2
  rw [rounds_succ]
  go_wp2
  rw [rounds_succ]
  go_wp2
  go_ret
  exact ⟨rfl, rfl⟩

set_option maxRecDepth 100000 in
theorem alive_true (w : World) : Calls Try.prog 10 #[] w fun e w' => e = .returned (.bool true) ∧ w' = w := by
  go_enter Try.func10, Try.ntmps10
  go_wp2_with fail
  refine (least8 _).mono ?_
  rintro e w' ⟨rfl, rfl⟩
  go_wp2_with fail
  refine (least9 _).mono ?_
  rintro e w' ⟨rfl, rfl⟩
  go_wp2
  go_ret
  exact ⟨rfl, rfl⟩
end Go.Proofs.Ytcgpfdknadijlaa
