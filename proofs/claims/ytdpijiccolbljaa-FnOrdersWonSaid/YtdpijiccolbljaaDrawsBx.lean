/- What the laws on boxes draw. -/
import Derived.Test.YtdpijiccolbljaaDrawBx
namespace Go.Proofs.Ytdpijiccolbljaa
open Go.RowKit

set_option maxRecDepth 100000 in
theorem DrawBoxesOk_any (a : Option Addr) (len cap : Nat) (bs : List Int) (w : World) (h : IsRowB .u8 w a len cap bs) :
    Calls Try.prog 35 #[.slice a len cap] w fun e w' => (∃ v zs, e = .returned v ∧ zs.length ≤ 8 ∧ Rd w' v zs) ∧ Below w.heap.size w w' := by
  go_enter Try.func35, Try.ntmps35
  go_wp2_with fail
  with_reducible refine (open_any _ _ _ bs _ h).mono ?_
  rintro e w1 ⟨⟨g, rfl, hg1, hg2, hr⟩, b1⟩
  go_wp2_with fail
  with_reducible refine (boxes_any g 0 3 _ hr (by omega)).mono ?_
  rintro e w2 ⟨⟨v, zs, rfl, hl, o2⟩, -, t2⟩
  have hb := below_turned b1 t2 hg1 b1.size
  have r2 := o2.rd
  clear t2 b1 hr o2
  go_wp2
  go_ret
  exact ⟨⟨_, zs, rfl, hl, r2⟩, hb⟩

set_option maxRecDepth 100000 in
theorem DrawCirclesOf_any (a : Option Addr) (len cap : Nat) (bs : List Int) (w : World) (h : IsRowB .u8 w a len cap bs) :
    Calls Try.prog 44 #[.slice a len cap] w fun e w' => (∃ v zs, e = .returned v ∧ zs.length ≤ 8 ∧ Rd w' v zs) ∧ Below w.heap.size w w' := by
  go_enter Try.func44, Try.ntmps44
  go_wp2_with fail
  with_reducible refine (open_any _ _ _ bs _ h).mono ?_
  rintro e w1 ⟨⟨g, rfl, hg1, hg2, hr⟩, b1⟩
  go_wp2_with fail
  with_reducible refine (boxes_any g 0 9 _ hr (by omega)).mono ?_
  rintro e w2 ⟨⟨v, zs, rfl, hl, o2⟩, -, t2⟩
  have hb := below_turned b1 t2 hg1 b1.size
  have r2 := o2.rd
  clear t2 b1 hr o2
  go_wp2
  go_ret
  exact ⟨⟨_, zs, rfl, hl, r2⟩, hb⟩

set_option maxRecDepth 100000 in
theorem DrawHelpFor_any (a : Option Addr) (len cap : Nat) (bs : List Int) (w : World) (h : IsRowB .u8 w a len cap bs) :
    Calls Try.prog 37 #[.slice a len cap] w fun e w' => (∃ v zs, e = .returned v ∧ zs.length ≤ 8 ∧ Rd w' v zs) ∧ Below w.heap.size w w' := by
  go_enter Try.func37, Try.ntmps37
  go_wp2_with fail
  with_reducible refine (open_any _ _ _ bs _ h).mono ?_
  rintro e w1 ⟨⟨g, rfl, hg1, hg2, hr⟩, b1⟩
  go_wp2_with fail
  with_reducible refine (boxes_any g 0 9 _ hr (by omega)).mono ?_
  rintro e w2 ⟨⟨v, zs, rfl, hl, o2⟩, -, t2⟩
  have hb := below_turned b1 t2 hg1 b1.size
  have r2 := o2.rd
  clear t2 b1 hr o2
  go_wp2
  go_ret
  exact ⟨⟨_, zs, rfl, hl, r2⟩, hb⟩

set_option maxRecDepth 100000 in
theorem DrawOpenedBy_any (a : Option Addr) (len cap : Nat) (bs : List Int) (w : World) (h : IsRowB .u8 w a len cap bs) :
    Calls Try.prog 39 #[.slice a len cap] w fun e w' => (∃ v zs p, e = .returned (.tuple #[v, .int .i64 p]) ∧ zs.length ≤ 8 ∧ Rd w' v zs) ∧ Below w.heap.size w w' := by
  go_enter Try.func39, Try.ntmps39
  go_wp2_with fail
  with_reducible refine (open_any _ _ _ bs _ h).mono ?_
  rintro e w1 ⟨⟨g, rfl, hg1, hg2, hr⟩, b1⟩
  go_wp2_with fail
  with_reducible refine (boxes_any g 0 12 _ hr (by omega)).mono ?_
  rintro e w2 ⟨⟨v, zs, rfl, hl, o2⟩, r2, t2⟩
  have hb := below_turned b1 t2 hg1 b1.size
  obtain ⟨A, c, rfl⟩ := own_form o2
  clear t2 hr
  have hs1 := b1.size
  have hs2 := hb.size
  go_wp2_with fail
  with_reducible refine (pick_any g (0 + 11) _ _ r2 (by omega)).mono ?_
  rintro e w3 ⟨x, rfl, ⟨hx0, hx1, -⟩, r3, t3, s3⟩
  have o3 := o2.turned t3 (Nat.le_refl _) (.inr (by omega))
  have hb := below_turned hb t3 (by omega) hs2
  have S3 := Nat.le_of_eq s3.symm
  have S3b := Nat.le_of_eq s3
  clear t3 r2 o2 s3
  go_wp2_with fail
  with_reducible refine (pick_any g (0 + 11 + 1) _ _ r3 (by omega)).mono ?_
  rintro e w4 ⟨y, rfl, ⟨hy0, hy1, -⟩, -, t4, s4⟩
  have hy2 := hy1 (by omega)
  have hx2 := hx1 (by omega)
  have hr4 := (o3.turned t4 (by omega) (.inr (by omega))).rd
  have hb := below_turned hb t4 (by omega) (by omega)
  clear t4 r3 o3 hy1 hx1 s4
  go_wp2
  go_ret2
  exact ⟨⟨_, zs, _, rfl, hl, hr4⟩, hb⟩

set_option maxRecDepth 100000 in
theorem DrawAllFind_any (a : Option Addr) (len cap : Nat) (bs : List Int) (w : World) (h : IsRowB .u8 w a len cap bs) :
    Calls Try.prog 43 #[.slice a len cap] w fun e w' => (∃ v zs p, e = .returned (.tuple #[v, .int .i64 p]) ∧ zs.length ≤ 8 ∧ Rd w' v zs) ∧ Below w.heap.size w w' := by
  go_enter Try.func43, Try.ntmps43
  go_wp2_with fail
  with_reducible refine (open_any _ _ _ bs _ h).mono ?_
  rintro e w1 ⟨⟨g, rfl, hg1, hg2, hr⟩, b1⟩
  go_wp2_with fail
  with_reducible refine (boxes_any g 0 12 _ hr (by omega)).mono ?_
  rintro e w2 ⟨⟨v, zs, rfl, hl, o2⟩, r2, t2⟩
  have hb := below_turned b1 t2 hg1 b1.size
  obtain ⟨A, c, rfl⟩ := own_form o2
  clear t2 hr
  have hs1 := b1.size
  have hs2 := hb.size
  go_wp2_with fail
  with_reducible refine (pick_any g (0 + 11) _ _ r2 (by omega)).mono ?_
  rintro e w3 ⟨x, rfl, ⟨hx0, hx1, -⟩, r3, t3, s3⟩
  have o3 := o2.turned t3 (Nat.le_refl _) (.inr (by omega))
  have hb := below_turned hb t3 (by omega) hs2
  have S3 := Nat.le_of_eq s3.symm
  have S3b := Nat.le_of_eq s3
  clear t3 r2 o2 s3
  go_wp2_with fail
  with_reducible refine (pick_any g (0 + 11 + 1) _ _ r3 (by omega)).mono ?_
  rintro e w4 ⟨y, rfl, ⟨hy0, hy1, -⟩, -, t4, s4⟩
  have hy2 := hy1 (by omega)
  have hx2 := hx1 (by omega)
  have hr4 := (o3.turned t4 (by omega) (.inr (by omega))).rd
  have hb := below_turned hb t4 (by omega) (by omega)
  clear t4 r3 o3 hy1 hx1 s4
  go_wp2
  go_ret2
  exact ⟨⟨_, zs, _, rfl, hl, hr4⟩, hb⟩

set_option maxRecDepth 100000 in
theorem DrawExchanged_any (a : Option Addr) (len cap : Nat) (bs : List Int) (w : World) (h : IsRowB .u8 w a len cap bs) :
    Calls Try.prog 42 #[.slice a len cap] w fun e w' => (∃ v zs p q, e = .returned (.tuple #[v, .int .i64 p, .int .i64 q]) ∧ zs.length ≤ 8 ∧ Rd w' v zs) ∧ Below w.heap.size w w' := by
  go_enter Try.func42, Try.ntmps42
  go_wp2_with fail
  with_reducible refine (open_any _ _ _ bs _ h).mono ?_
  rintro e w1 ⟨⟨g, rfl, hg1, hg2, hr⟩, b1⟩
  go_wp2_with fail
  with_reducible refine (boxes_any g 0 12 _ hr (by omega)).mono ?_
  rintro e w2 ⟨⟨v, zs, rfl, hl, o2⟩, r2, t2⟩
  have hb := below_turned b1 t2 hg1 b1.size
  obtain ⟨A, c, rfl⟩ := own_form o2
  clear t2 hr
  have hs1 := b1.size
  have hs2 := hb.size
  go_wp2_with fail
  with_reducible refine (pick_any g (0 + 11) _ _ r2 (by omega)).mono ?_
  rintro e w3 ⟨x, rfl, ⟨hx0, hx1, -⟩, r3, t3, s3⟩
  have o3 := o2.turned t3 (Nat.le_refl _) (.inr (by omega))
  have hb := below_turned hb t3 (by omega) hs2
  have S3 := Nat.le_of_eq s3.symm
  have S3b := Nat.le_of_eq s3
  clear t3 r2 o2 s3
  go_wp2_with fail
  with_reducible refine (pick_any g (0 + 11 + 1) _ _ r3 (by omega)).mono ?_
  rintro e w4 ⟨y, rfl, ⟨hy0, hy1, -⟩, -, t4, s4⟩
  have hr4 := (o3.turned t4 (by omega) (.inr (by omega))).rd
  have hb := below_turned hb t4 (by omega) (by omega)
  clear t4 r3 o3 hy1 hx1 s4
  go_wp2
  go_ret3
  exact ⟨⟨_, zs, _, _, rfl, hl, hr4⟩, hb⟩

set_option maxRecDepth 100000 in
theorem DrawOrdersWon_any (a : Option Addr) (len cap : Nat) (bs : List Int) (w : World) (h : IsRowB .u8 w a len cap bs) :
    Calls Try.prog 41 #[.slice a len cap] w fun e w' => (∃ p q, e = .returned (.tuple #[.int .i64 p, .int .i64 q]) ∧ (0 ≤ p ∧ p ≤ 6)) ∧ Below w.heap.size w w' := by
  go_enter Try.func41, Try.ntmps41
  go_wp2_with fail
  with_reducible refine (open_any _ _ _ bs _ h).mono ?_
  rintro e w1 ⟨⟨g, rfl, hg1, hg2, hr⟩, b1⟩
  have hs1 := b1.size
  go_wp2_with fail
  with_reducible refine (pick_any g 0 _ _ hr (by omega)).mono ?_
  rintro e w2 ⟨x, rfl, ⟨hx0, hx1, -⟩, r2, t2, s2⟩
  have hx2 := hx1 (by omega)
  have hb := below_turned b1 t2 hg1 hs1
  have S2 := Nat.le_of_eq s2.symm
  clear hr b1 t2 hx1 s2
  go_wp2_with fail
  with_reducible refine (pick_any g (0 + 1) _ _ r2 (by omega)).mono ?_
  rintro e w3 ⟨y, rfl, ⟨hy0, hy1, -⟩, r3, t3, s3⟩
  have hy2 := hy1 (by omega)
  have hb := below_turned hb t3 hg1 (by omega)
  have S3 := Nat.le_of_eq s3.symm
  clear r2 t3 hy1 s3
  go_wp2_with fail
  with_reducible refine (pick_any g (0 + 1 + 1) _ _ r3 (by omega)).mono ?_
  rintro e w4 ⟨z, rfl, ⟨hz0, hz1, -⟩, -, t4, s4⟩
  have hz2 := hz1 (by omega)
  have hb := below_turned hb t4 hg1 (by omega)
  clear r3 t4 hz1 s4
  go_wp2
  go_ret2
  exact ⟨⟨_, _, rfl, by omega⟩, hb⟩
end Go.Proofs.Ytdpijiccolbljaa
