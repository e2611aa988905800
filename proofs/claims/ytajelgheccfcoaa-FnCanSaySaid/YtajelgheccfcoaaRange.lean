/- allIn: whether all numbers are in a range. -/
import Derived.Test.YtajelgheccfcoaaProg
import Derived.Test.YtajelgheccfcoaaBase
namespace Go.Proofs.Ytajelgheccfcoaa
open Go.RowKit

def inB (lo hi z : Int) : Bool := decide (lo ≤ z) && decide (z ≤ hi)
def allB (lo hi : Int) (zs : List Int) : Bool := zs.all (inB lo hi)

theorem inB_out {lo hi z : Int} (h : inB lo hi z = false) : ¬ (lo ≤ z ∧ z ≤ hi) := by
  simp only [inB, Bool.and_eq_false_iff, decide_eq_false_iff_not] at h; omega
theorem inB_in {lo hi z : Int} (h : inB lo hi z = true) : lo ≤ z ∧ z ≤ hi := by
  simpa only [inB, Bool.and_eq_true, decide_eq_true_eq] using h
theorem inB_true {lo hi z : Int} (h1 : lo ≤ z) (h2 : z ≤ hi) : inB lo hi z = true := by simp [inB, h1, h2]
theorem inB_false {lo hi z : Int} (h : ¬ (lo ≤ z ∧ z ≤ hi)) : inB lo hi z = false := by
  cases hb : inB lo hi z
  · rfl
  · exact absurd (inB_in hb) h

set_option maxRecDepth 100000 in
theorem l1In_any (n lo hi : Int) (w : World) :
    Calls Try.prog 51 #[.int .i64 n, .int .i64 lo, .int .i64 hi] w fun e w' => e = .returned (.bool (inB lo hi n)) ∧ w' = w := by
  by_cases h1 : lo ≤ n
  · by_cases h2 : n ≤ hi
    · have e : inB lo hi n = true := by simp [inB, h1, h2]
      have E := Lib.hid e; clear e
      go_enter Try.func51, Try.ntmps51
      go_wp2
      go_ret
      exact ⟨ret_bool E.out.symm, rfl⟩
    · have e : inB lo hi n = false := by simp [inB, h2]
      have E := Lib.hid e; clear e
      go_enter Try.func51, Try.ntmps51
      go_wp2
      go_ret
      exact ⟨ret_bool E.out.symm, rfl⟩
  · have e : inB lo hi n = false := by simp [inB, h1]
    have E := Lib.hid e; clear e
    go_enter Try.func51, Try.ntmps51
    go_wp2
    go_ret
    exact ⟨ret_bool E.out.symm, rfl⟩

set_option maxRecDepth 100000 in
theorem in_any (n lo hi : Int) (w : World) :
    Calls Try.prog 48 #[.int .i64 n, .int .i64 lo, .int .i64 hi] w fun e w' => e = .returned (.bool (inB lo hi n)) ∧ w' = w := by
  by_cases h1 : lo ≤ n
  · by_cases h2 : n ≤ hi
    · have e : inB lo hi n = true := by simp [inB, h1, h2]
      have E := Lib.hid e; clear e
      go_enter Try.func48, Try.ntmps48
      go_wp2
      go_ret
      exact ⟨ret_bool E.out.symm, rfl⟩
    · have e : inB lo hi n = false := by simp [inB, h2]
      have E := Lib.hid e; clear e
      go_enter Try.func48, Try.ntmps48
      go_wp2
      go_ret
      exact ⟨ret_bool E.out.symm, rfl⟩
  · have e : inB lo hi n = false := by simp [inB, h1]
    have E := Lib.hid e; clear e
    go_enter Try.func48, Try.ntmps48
    go_wp2
    go_ret
    exact ⟨ret_bool E.out.symm, rfl⟩


end Go.Proofs.Ytajelgheccfcoaa
