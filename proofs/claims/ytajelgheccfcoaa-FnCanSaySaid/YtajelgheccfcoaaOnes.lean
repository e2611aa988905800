/- math/bits.OnesCount at numbers below 32. -/
import Derived.Test.YtajelgheccfcoaaRange
namespace Go.Proofs.Ytajelgheccfcoaa
open Go.RowKit

/-- How many of the five lowest bits are set. -/
def popN (k : Nat) : Nat := k % 2 + k / 2 % 2 + k / 4 % 2 + k / 8 % 2 + k / 16 % 2

set_option maxHeartbeats 6400000 in
set_option maxRecDepth 100000 in
theorem ones_any (k : Nat) (w : World) (hk : k < 32) :
    Calls Try.prog 66 #[.int .u64 (k : Int)] w fun e w' => e = .returned (.int .i64 (popN k : Nat)) ∧ w' = w := by
  obtain rfl | rfl | rfl | rfl | rfl | rfl | rfl | rfl | rfl | rfl | rfl | rfl | rfl | rfl | rfl | rfl | rfl | rfl | rfl | rfl | rfl | rfl | rfl | rfl | rfl | rfl | rfl | rfl | rfl | rfl | rfl | rfl : k = 0 ∨ k = 1 ∨ k = 2 ∨ k = 3 ∨ k = 4 ∨ k = 5 ∨ k = 6 ∨ k = 7 ∨ k = 8 ∨ k = 9 ∨ k = 10 ∨ k = 11 ∨ k = 12 ∨ k = 13 ∨ k = 14 ∨ k = 15 ∨ k = 16 ∨ k = 17 ∨ k = 18 ∨ k = 19 ∨ k = 20 ∨ k = 21 ∨ k = 22 ∨ k = 23 ∨ k = 24 ∨ k = 25 ∨ k = 26 ∨ k = 27 ∨ k = 28 ∨ k = 29 ∨ k = 30 ∨ k = 31 := by omega
  all_goals
    go_enter Try.func66, Try.ntmps66
    go_wp2
    go_ret
    exact ⟨by kernel_rfl, rfl⟩
end Go.Proofs.Ytajelgheccfcoaa
