/- Drawn shots, and the draws of the laws on ships. -/
import Derived.Test.YtahamfgkcnepgaaDrawBd
import Derived.Test.YtahamfgkcnepgaaDiag
namespace Go.Proofs.Ytahamfgkcnepgaa
open Go.RowKit

set_option maxRecDepth 100000 in
theorem DrawPlacesOf_any (a : Option Addr) (len cap : Nat) (bs : List Int) (w : World) (h : IsRowB .u8 w a len cap bs) :
    Calls Try.prog 47 #[.slice a len cap] w fun e w' => (∃ r c l, e = .returned (.tuple #[.int .i64 r, .int .i64 c, .int .i64 l]) ∧ (0 ≤ r ∧ r ≤ 7) ∧ (0 ≤ c ∧ c ≤ 6) ∧ (0 ≤ l ∧ l ≤ 7)) ∧ Below w.heap.size w w' := by
  go_enter Try.func47, Try.ntmps47
  go_wp2_with fail
  refine (open_any _ _ _ bs _ h).mono ?_
  rintro e w1 ⟨⟨g, rfl, hg1, hg2, hr⟩, b1⟩
  go_wp2_with fail
  refine (board_any g 0 9 _ hr (by omega)).mono ?_
  rintro e w2 ⟨⟨r, c, l, rfl, h1, h2, h3⟩, -, t2⟩
  have hb := below_turned b1 t2 hg1 b1.size
  clear t2 b1 hr
  go_wp2
  go_ret3
  exact ⟨⟨_, _, _, rfl, h1, h2, h3⟩, hb⟩

set_option maxRecDepth 100000 in
theorem DrawApartIn_any (a : Option Addr) (len cap : Nat) (bs : List Int) (w : World) (h : IsRowB .u8 w a len cap bs) :
    Calls Try.prog 53 #[.slice a len cap] w fun e w' => (∃ r c l, e = .returned (.tuple #[.int .i64 r, .int .i64 c, .int .i64 l]) ∧ (0 ≤ r ∧ r ≤ 7) ∧ (0 ≤ c ∧ c ≤ 6) ∧ (0 ≤ l ∧ l ≤ 7)) ∧ Below w.heap.size w w' := by
  go_enter Try.func53, Try.ntmps53
  go_wp2_with fail
  refine (open_any _ _ _ bs _ h).mono ?_
  rintro e w1 ⟨⟨g, rfl, hg1, hg2, hr⟩, b1⟩
  go_wp2_with fail
  refine (board_any g 0 9 _ hr (by omega)).mono ?_
  rintro e w2 ⟨⟨r, c, l, rfl, h1, h2, h3⟩, -, t2⟩
  have hb := below_turned b1 t2 hg1 b1.size
  clear t2 b1 hr
  go_wp2
  go_ret3
  exact ⟨⟨_, _, _, rfl, h1, h2, h3⟩, hb⟩

set_option maxRecDepth 100000 in
theorem DrawDiagonalShots_any (a : Option Addr) (len cap : Nat) (bs : List Int) (w : World) (h : IsRowB .u8 w a len cap bs) :
    Calls Try.prog 54 #[.slice a len cap] w fun e w' => (∃ r c l m, e = .returned (.tuple #[.int .i64 r, .int .i64 c, .int .i64 l, .int .i64 m]) ∧ (0 ≤ r ∧ r ≤ 7) ∧ (0 ≤ c ∧ c ≤ 6) ∧ (0 ≤ l ∧ l ≤ 7) ∧ (-1 ≤ m ∧ m ≤ 4)) ∧ Below w.heap.size w w' := by
  go_enter Try.func54, Try.ntmps54
  go_wp2_with fail
  refine (open_any _ _ _ bs _ h).mono ?_
  rintro e w1 ⟨⟨g, rfl, hg1, hg2, hr⟩, b1⟩
  go_wp2_with fail
  refine (board_any g 0 9 _ hr (by omega)).mono ?_
  rintro e w2 ⟨⟨r, c, l, rfl, h1, h2, h3⟩, r2, t2⟩
  have hb := below_turned b1 t2 hg1 b1.size
  clear t2 b1 hr
  go_wp2_with fail
  refine (pick_any g 4 5 _ r2 (by omega)).mono ?_
  rintro e w3 ⟨x, rfl, ⟨p3, q3, -⟩, r3, t3, z3⟩
  have q3 := q3 (by omega)
  have hb3 := below_turned hb t3 hg1 hb.size
  go_wp2_with fail
  refine (pick_any g 5 20 _ r3 (by omega)).mono ?_
  rintro e w4 ⟨y, rfl, ⟨p4, q4, -⟩, r4, t4, z4⟩
  have q4 := q4 (by omega)
  have hb4 := below_turned hb3 t4 hg1 hb3.size
  have HB := Lib.hid hb4
  clear hb hb3 hb4 t3 t4 r2 r3 r4 z3 z4
  go_wp2
  refine bodyPost_ret (v := .tuple #[.int .i64 r, .int .i64 c, .int .i64 l, .int .i64 (x - y / 19)]) (by simp [results, Try.results54, go_sem]) rfl ?_
  exact ⟨⟨_, _, _, _, rfl, h1, h2, h3, by omega, by omega⟩, HB.out⟩
end Go.Proofs.Ytahamfgkcnepgaa
