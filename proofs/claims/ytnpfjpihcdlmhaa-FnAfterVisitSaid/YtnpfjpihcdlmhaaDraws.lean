/- The draws of this chapter. -/
import Derived.Test.YtnpfjpihcdlmhaaDrawVis
namespace Go.Proofs.Ytnpfjpihcdlmhaa
open Go.RowKit

set_option maxRecDepth 100000 in
theorem DrawVisitsOk_any (a : Option Addr) (len cap : Nat) (bs : List Int) (w : World) (h : IsRowB .u8 w a len cap bs) :
    Calls Try.prog 44 #[.slice a len cap] w fun e w' => (∃ P v zs, e = .returned (.tuple #[.int .i64 P, v]) ∧ VisR 3 P zs ∧ Own w' w.heap.size w'.heap.size v zs) ∧ Below w.heap.size w w' := by
  go_enter Try.func44, Try.ntmps44
  go_wp2_with fail
  refine (open_any _ _ _ bs _ h).mono ?_
  rintro e w1 ⟨⟨g, rfl, hg1, hg2, hr⟩, b1⟩
  go_wp2_with fail
  refine (visits_any g 0 3 _ hr (by omega)).mono ?_
  rintro e w2 ⟨⟨P, v, zs, rfl, hv, ho⟩, _, t2⟩
  have s1 := b1.size
  go_wp2
  go_ret2
  exact ⟨⟨P, v, zs, rfl, hv, ho.wide (by omega) (Nat.le_refl _)⟩, below_turned b1 t2 hg1 (by omega)⟩

set_option maxRecDepth 100000 in
theorem DrawSeenBy_any (a : Option Addr) (len cap : Nat) (bs : List Int) (w : World) (h : IsRowB .u8 w a len cap bs) :
    Calls Try.prog 49 #[.slice a len cap] w fun e w' => (∃ P v zs, e = .returned (.tuple #[.int .i64 P, v]) ∧ VisR 9 P zs ∧ Own w' w.heap.size w'.heap.size v zs) ∧ Below w.heap.size w w' := by
  go_enter Try.func49, Try.ntmps49
  go_wp2_with fail
  refine (open_any _ _ _ bs _ h).mono ?_
  rintro e w1 ⟨⟨g, rfl, hg1, hg2, hr⟩, b1⟩
  go_wp2_with fail
  refine (visits_any g 0 9 _ hr (by omega)).mono ?_
  rintro e w2 ⟨⟨P, v, zs, rfl, hv, ho⟩, _, t2⟩
  have s1 := b1.size
  go_wp2
  go_ret2
  exact ⟨⟨P, v, zs, rfl, hv, ho.wide (by omega) (Nat.le_refl _)⟩, below_turned b1 t2 hg1 (by omega)⟩

set_option maxRecDepth 100000 in
theorem DrawToldAfter_any (a : Option Addr) (len cap : Nat) (bs : List Int) (w : World) (h : IsRowB .u8 w a len cap bs) :
    Calls Try.prog 53 #[.slice a len cap] w fun e w' => (∃ P v zs, e = .returned (.tuple #[.int .i64 P, v]) ∧ VisR 9 P zs ∧ Own w' w.heap.size w'.heap.size v zs) ∧ Below w.heap.size w w' := by
  go_enter Try.func53, Try.ntmps53
  go_wp2_with fail
  refine (open_any _ _ _ bs _ h).mono ?_
  rintro e w1 ⟨⟨g, rfl, hg1, hg2, hr⟩, b1⟩
  go_wp2_with fail
  refine (visits_any g 0 9 _ hr (by omega)).mono ?_
  rintro e w2 ⟨⟨P, v, zs, rfl, hv, ho⟩, _, t2⟩
  have s1 := b1.size
  go_wp2
  go_ret2
  exact ⟨⟨P, v, zs, rfl, hv, ho.wide (by omega) (Nat.le_refl _)⟩, below_turned b1 t2 hg1 (by omega)⟩

set_option maxRecDepth 100000 in
theorem DrawAfterVisits_any (a : Option Addr) (len cap : Nat) (bs : List Int) (w : World) (h : IsRowB .u8 w a len cap bs) :
    Calls Try.prog 54 #[.slice a len cap] w fun e w' => (∃ P v zs, e = .returned (.tuple #[.int .i64 P, v]) ∧ VisR 9 P zs ∧ Own w' w.heap.size w'.heap.size v zs) ∧ Below w.heap.size w w' := by
  go_enter Try.func54, Try.ntmps54
  go_wp2_with fail
  refine (open_any _ _ _ bs _ h).mono ?_
  rintro e w1 ⟨⟨g, rfl, hg1, hg2, hr⟩, b1⟩
  go_wp2_with fail
  refine (visits_any g 0 9 _ hr (by omega)).mono ?_
  rintro e w2 ⟨⟨P, v, zs, rfl, hv, ho⟩, _, t2⟩
  have s1 := b1.size
  go_wp2
  go_ret2
  exact ⟨⟨P, v, zs, rfl, hv, ho.wide (by omega) (Nat.le_refl _)⟩, below_turned b1 t2 hg1 (by omega)⟩

set_option maxRecDepth 100000 in
theorem DrawRoomNew_any (a : Option Addr) (len cap : Nat) (bs : List Int) (w : World) (h : IsRowB .u8 w a len cap bs) :
    Calls Try.prog 46 #[.slice a len cap] w fun e w' => (∃ P, e = .returned (.int .i64 P) ∧ -1 ≤ P ∧ P ≤ 6) ∧ Below w.heap.size w w' := by
  go_enter Try.func46, Try.ntmps46
  go_wp2_with fail
  refine (open_any _ _ _ bs _ h).mono ?_
  rintro e w1 ⟨⟨g, rfl, hg1, hg2, hr⟩, b1⟩
  go_wp2_with fail
  refine (pick_any g 0 8 _ hr (by omega)).mono ?_
  rintro e w2 ⟨x, rfl, ⟨hx0, hx1, hx2⟩, _, t2, z2⟩
  have hx3 := hx1 (by omega)
  have s1 := b1.size
  have hb := below_turned b1 t2 hg1 s1
  clear hx1 hx2 z2 t2 b1
  go_wp2
  go_ret
  exact ⟨⟨_, rfl, by omega, by omega⟩, hb⟩

set_option maxRecDepth 100000 in
theorem DrawRoundsOf_any (a : Option Addr) (len cap : Nat) (bs : List Int) (w : World) (h : IsRowB .u8 w a len cap bs) :
    Calls Try.prog 50 #[.slice a len cap] w fun e w' => (∃ P R F, e = .returned (.tuple #[.int .i64 P, .int .i64 R, .int .i64 F]) ∧ 0 ≤ P ∧ P ≤ 6 ∧ 0 ≤ R ∧ R ≤ 13 ∧ -1 ≤ F ∧ F ≤ 6) ∧ Below w.heap.size w w' := by
  go_enter Try.func50, Try.ntmps50
  go_wp2_with fail
  refine (open_any _ _ _ bs _ h).mono ?_
  rintro e w1 ⟨⟨g, rfl, hg1, hg2, hr⟩, b1⟩
  go_wp2_with fail
  refine (pick_any g 0 7 _ hr (by omega)).mono ?_
  rintro e w2 ⟨x, rfl, ⟨hx0, hx1, hx2⟩, r2, t2, z2⟩
  have hx3 := hx1 (by omega)
  have s1 := b1.size
  have hb := below_turned b1 t2 hg1 s1
  have s2 := Nat.le_of_eq z2.symm
  clear hx1 hx2 z2 t2 b1
  go_wp2_with fail
  refine (pick_any g 1 14 _ r2 (by omega)).mono ?_
  rintro e w3 ⟨y, rfl, ⟨hy0, hy1, hy2⟩, r3, t3, z3⟩
  have hy3 := hy1 (by omega)
  have hb3 := below_turned hb t3 hg1 (by omega)
  have s3 := Nat.le_of_eq z3.symm
  clear hy1 hy2 z3 t3 hb r2
  go_wp2_with fail
  refine (pick_any g 2 (x + 1) _ r3 (by omega)).mono ?_
  rintro e w4 ⟨z, rfl, ⟨hz0, hz1, hz2⟩, r4, t4, z4⟩
  have hz3 := hz1 (by omega)
  have hb4 := below_turned hb3 t4 hg1 (by omega)
  have s4 := Nat.le_of_eq z4.symm
  clear hz1 hz2 z4 t4 hb3 r3
  go_wp2_with fail
  refine (pick_any g 3 20 _ r4 (by omega)).mono ?_
  rintro e w5 ⟨u, rfl, ⟨hu0, hu1, hu2⟩, r5, t5, z5⟩
  have hu3 := hu1 (by omega)
  have hb5 := below_turned hb4 t5 hg1 (by omega)
  clear hu1 hu2 z5 t5 hb4 r4
  go_wp2
  go_ret3
  exact ⟨⟨_, _, _, rfl, by omega, by omega, by omega, by omega, by omega, by omega⟩, hb5⟩
end Go.Proofs.Ytnpfjpihcdlmhaa
