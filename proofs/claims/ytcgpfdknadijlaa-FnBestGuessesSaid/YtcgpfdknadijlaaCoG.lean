/- Drawn arguments of the laws on ways. -/
import Derived.Test.YtcgpfdknadijlaaCoF
namespace Go.Proofs.Ytcgpfdknadijlaa
open Go.RowKit

set_option maxHeartbeats 6400000 in
set_option maxRecDepth 100000 in
theorem DrawPaidFor_any (a : Option Addr) (len cap : Nat) (bs : List Int) (w : World) (h : IsRowB .u8 w a len cap bs) :
    Calls Try.prog 16 #[.slice a len cap] w fun e w' => (∃ v zs l x, e = .returned (.tuple #[v, .string (tx l), .int .i64 x]) ∧ zs.length ≤ 10 ∧ l.length ≤ 60 ∧ -1 ≤ x ∧ x ≤ 10 ∧ Own w' w.heap.size w'.heap.size v zs) ∧ Below w.heap.size w w' := by
  have T := Lib.hid (open_any a len cap bs w h)
  clear h
  go_enter Try.func16, Try.ntmps16
  go_wp2_with fail
  with_reducible refine T.out.mono ?_
  rintro e w1 ⟨⟨g, rfl, hg0, hg1, hr⟩, b1⟩
  have HR := Lib.hid hr
  have HB := Lib.hid b1
  clear hr b1
  go_wp2_with fail
  with_reducible refine (guessed_any g 0 14 w1 HR.out (by omega)).mono ?_
  rintro e w2 ⟨⟨v, zs, S, rfl, hzl, hS, ho⟩, r2, t2⟩
  have HO2 := Lib.hid ho
  have HR2 := Lib.hid r2
  have HT2 := Lib.hid t2
  obtain ⟨a2, c2, rfl, l2, m2, -⟩ := ho.rd
  obtain ⟨l, hl, hll⟩ := tx_all S
  subst hl
  rw [hll.symm] at hS
  clear r2 t2 ho hll
  have hp1 : IntKind.i64.wrap ((zs.length : Int) + 1) = (zs.length : Int) + 1 := by rw [IntKind.wrap_i64]; omega
  go_wp2_with fail
  with_reducible refine (pick_any g (0 + 100) ((zs.length : Int) + 1) w2 HR2.out (by omega)).mono ?_
  rintro e w3 ⟨y, rfl, ⟨y0, y1, -⟩, r3, t3, -⟩
  have hy := y1 (by omega)
  have HT3 := Lib.hid (turned_trans HT2.out t3)
  have HR3 := Lib.hid r3
  have HO3 := Lib.hid (own_step HO2.out t3 (by omega))
  clear r3 t3 y1 HT2 HR2 HO2
  go_wp2_with fail
  with_reducible refine (pick_any g (0 + 100 + 1) 20 w3 HR3.out (by omega)).mono ?_
  rintro e w4 ⟨q, rfl, ⟨q0, q1, -⟩, r4, t4, -⟩
  have hq := q1 (by omega)
  have HT4 := Lib.hid (below_turned HB.out (turned_trans HT3.out t4) hg0 HB.out.size)
  have HO4 := Lib.hid ((own_step HO3.out t4 (by omega)).wide HB.out.size (Nat.le_refl _))
  clear r4 t4 q1
  go_wp2
  refine bodyPost_ret (v := .tuple #[.slice a2 zs.length c2, .string (tx l), .int .i64 (y - q / 19)]) (by simp [results, Try.results16, go_sem]) rfl ?_
  exact ⟨⟨_, zs, l, _, rfl, hzl, hS, by omega, by omega, HO4.out⟩, HT4.out⟩

set_option maxHeartbeats 6400000 in
set_option maxRecDepth 100000 in
theorem DrawNeedsOf_any (a : Option Addr) (len cap : Nat) (bs : List Int) (w : World) (h : IsRowB .u8 w a len cap bs) :
    Calls Try.prog 13 #[.slice a len cap] w fun e w' => (∃ v zs l, e = .returned (.tuple #[v, .string (tx l)]) ∧ zs.length ≤ 10 ∧ l.length ≤ 60 ∧ Own w' w.heap.size w'.heap.size v zs) ∧ Below w.heap.size w w' := by
  have T := Lib.hid (open_any a len cap bs w h)
  clear h
  go_enter Try.func13, Try.ntmps13
  go_wp2_with fail
  with_reducible refine T.out.mono ?_
  rintro e w1 ⟨⟨g, rfl, hg0, hg1, hr⟩, b1⟩
  have HR := Lib.hid hr
  have HB := Lib.hid b1
  clear hr b1
  go_wp2_with fail
  with_reducible refine (guessed_any g 0 6 w1 HR.out (by omega)).mono ?_
  rintro e w2 ⟨⟨v, zs, S, rfl, hzl, hS, ho⟩, r2, t2⟩
  have HO2 := Lib.hid (ho.wide HB.out.size (Nat.le_refl _))
  have HT2 := Lib.hid (below_turned HB.out t2 hg0 HB.out.size)
  obtain ⟨a2, c2, rfl, l2, m2, -⟩ := ho.rd
  obtain ⟨l, hl, hll⟩ := tx_all S
  subst hl
  rw [hll.symm] at hS
  clear r2 t2 ho hll
  go_wp2
  refine bodyPost_ret (v := .tuple #[.slice a2 zs.length c2, .string (tx l)]) (by simp [results, Try.results13, go_sem]) rfl ?_
  exact ⟨⟨_, zs, l, rfl, hzl, hS, HO2.out⟩, HT2.out⟩

set_option maxHeartbeats 6400000 in
set_option maxRecDepth 100000 in
theorem DrawBestGuesses_any (a : Option Addr) (len cap : Nat) (bs : List Int) (w : World) (h : IsRowB .u8 w a len cap bs) :
    Calls Try.prog 6 #[.slice a len cap] w fun e w' => (∃ v zs, e = .returned v ∧ zs.length ≤ 10 ∧ Own w' w.heap.size w'.heap.size v zs) ∧ Below w.heap.size w w' := by
  have T := Lib.hid (open_any a len cap bs w h)
  clear h
  go_enter Try.func6, Try.ntmps6
  go_wp2_with fail
  with_reducible refine T.out.mono ?_
  rintro e w1 ⟨⟨g, rfl, hg0, hg1, hr⟩, b1⟩
  have HR := Lib.hid hr
  have HB := Lib.hid b1
  clear hr b1
  go_wp2_with fail
  with_reducible refine (prices_any g 0 9 w1 HR.out (by omega)).mono ?_
  rintro e w2 ⟨⟨v, zs, rfl, hzl, ho⟩, r2, t2⟩
  have HO2 := Lib.hid (ho.wide HB.out.size (Nat.le_refl _))
  have HT2 := Lib.hid (below_turned HB.out t2 hg0 HB.out.size)
  obtain ⟨a2, c2, rfl, l2, m2, -⟩ := ho.rd
  clear r2 t2 ho
  go_wp2
  go_ret
  exact ⟨⟨_, zs, rfl, hzl, HO2.out⟩, HT2.out⟩
end Go.Proofs.Ytcgpfdknadijlaa
