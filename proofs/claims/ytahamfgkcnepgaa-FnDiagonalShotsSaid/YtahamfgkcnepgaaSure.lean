/- SureHit, of the program and of the reference. -/
import Derived.Test.YtahamfgkcnepgaaStill
namespace Go.Proofs.Ytahamfgkcnepgaa
open Go.RowKit

def sureI (rows cols : Int) (zss : List (List Int)) (long : Int) : Bool := shotsB rows cols zss && (inB 1 6 long && decide (((stillI rows cols zss long).length : Int) = 0))

set_option maxHeartbeats 1600000 in
set_option maxRecDepth 100000 in
theorem specSureHit_any (rows cols long : Int) (v : Value) (zss : List (List Int)) (w : World) (h : RdR w v zss) :
    Calls Try.prog 42 #[.int .i64 rows, .int .i64 cols, v, .int .i64 long] w fun e w' => e = .returned (.bool (sureI rows cols zss long)) ∧ Below w.heap.size w w' := by
  go_enter Try.func42, Try.ntmps42
  go_wp2_with fail
  refine (specShotsOk_any rows cols v zss w h).mono ?_
  rintro e w1 ⟨rfl, rfl⟩
  rcases Bool.eq_false_or_eq_true (shotsB rows cols zss) with hs | hs
  rotate_left
  · rw [hs]
    have HF : Hid (sureI rows cols zss long = false) := by unfold Hid sureI; rw [hs]; rfl
    clear hs
    go_wp2
    go_ret
    exact ⟨ret_bool HF.out.symm, Below.refl _ _⟩
  rw [hs]
  have HS := Lib.hid hs
  clear hs
  go_wp2_with fail
  refine (l1In_any _ _ _ _).mono ?_
  rintro e w1 ⟨rfl, rfl⟩
  rcases Bool.eq_false_or_eq_true (inB 1 6 long) with hm | hm
  rotate_left
  · rw [hm]
    have HF : Hid (sureI rows cols zss long = false) := by unfold Hid sureI; rw [hm]; simp
    clear hm
    go_wp2
    go_ret
    exact ⟨ret_bool HF.out.symm, Below.refl _ _⟩
  rw [hm]
  have HF : Hid (sureI rows cols zss long = decide (((stillI rows cols zss long).length : Int) = 0)) := by unfold Hid sureI; rw [HS.out, hm]; rfl
  clear hm
  go_wp2_with fail
  refine (specStillAt_any rows cols long v zss _ h).mono ?_
  rintro e w2 ⟨v2, rfl, o2, b2⟩
  have HB2 := Lib.hid b2
  obtain ⟨a, cp, rfl, -⟩ := o2.rd
  clear o2 b2
  generalize (stillI rows cols zss long).length = n at *
  go_wp2
  go_ret
  exact ⟨ret_bool (by rw [HF.out]; rfl), HB2.out⟩

set_option maxHeartbeats 1600000 in
set_option maxRecDepth 100000 in
theorem implSureHit_any (rows cols long : Int) (v : Value) (zss : List (List Int)) (w : World) (h : RdR w v zss) :
    Calls Try.prog 43 #[.int .i64 rows, .int .i64 cols, v, .int .i64 long] w fun e w' => e = .returned (.bool (sureI rows cols zss long)) ∧ Below w.heap.size w w' := by
  go_enter Try.func43, Try.ntmps43
  go_wp2_with fail
  refine (implShotsOk_any rows cols v zss w h).mono ?_
  rintro e w1 ⟨rfl, b1⟩
  have HB1 := Lib.hid b1
  have h1 := h.below b1
  clear b1
  rcases Bool.eq_false_or_eq_true (shotsB rows cols zss) with hs | hs
  rotate_left
  · rw [hs]
    have HF : Hid (sureI rows cols zss long = false) := by unfold Hid sureI; rw [hs]; rfl
    clear hs
    go_wp2
    go_ret
    exact ⟨ret_bool HF.out.symm, HB1.out⟩
  rw [hs]
  have HS := Lib.hid hs
  clear hs
  go_wp2_with fail
  refine (in_any _ _ _ _).mono ?_
  rintro e w1 ⟨rfl, rfl⟩
  rcases Bool.eq_false_or_eq_true (inB 1 6 long) with hm | hm
  rotate_left
  · rw [hm]
    have HF : Hid (sureI rows cols zss long = false) := by unfold Hid sureI; rw [hm]; simp
    clear hm
    go_wp2
    go_ret
    exact ⟨ret_bool HF.out.symm, HB1.out⟩
  rw [hm]
  have HF : Hid (sureI rows cols zss long = decide (((stillI rows cols zss long).length : Int) = 0)) := by unfold Hid sureI; rw [HS.out, hm]; rfl
  clear hm
  go_wp2_with fail
  refine (implStillAt_any rows cols long v zss _ h1).mono ?_
  rintro e w2 ⟨v2, rfl, o2, b2⟩
  have HB2 := Lib.hid (HB1.out.trans (b2.mono HB1.out.size))
  obtain ⟨a, cp, rfl, -⟩ := o2.rd
  clear o2 b2
  generalize (stillI rows cols zss long).length = n at *
  go_wp2
  go_ret
  exact ⟨ret_bool (by rw [HF.out]; rfl), HB2.out⟩
end Go.Proofs.Ytahamfgkcnepgaa
