/- Drawn arguments of the laws on sayings. -/
import Derived.Test.YtajelgheccfcoaaDrawSs
namespace Go.Proofs.Ytajelgheccfcoaa
open Go.RowKit

set_option maxRecDepth 100000 in
theorem DrawSayingsOk_any (a : Option Addr) (len cap : Nat) (bs : List Int) (w : World) (h : IsRowB .u8 w a len cap bs) :
    Calls Try.prog 27 #[.slice a len cap] w fun e w' => (∃ p v ps, e = .returned (.tuple #[.int .i64 p, v]) ∧ SyR p ps ∧ OwnS w' w.heap.size w'.heap.size v ps) ∧ Below w.heap.size w w' := by
  have T := Lib.hid (open_any a len cap bs w h)
  clear h
  go_enter Try.func27, Try.ntmps27
  go_wp2_with fail
  with_reducible refine T.out.mono ?_
  rintro e w1 ⟨⟨g, rfl, hg0, hg1, hr⟩, b1⟩
  have HR := Lib.hid hr
  have HB := Lib.hid b1
  clear hr b1
  go_wp2_with fail
  with_reducible refine (sayings_any g 0 3 w1 HR.out (by omega)).mono ?_
  rintro e w2 ⟨⟨p, v, ps, rfl, hs, ho⟩, -, ht⟩
  have HS := Lib.hid hs
  have HO := Lib.hid (ho.wide HB.out.size (Nat.le_refl _))
  have HB2 := Lib.hid (below_turned HB.out ht hg0 HB.out.size)
  clear hs ho ht
  go_wp2
  refine bodyPost_ret (v := .tuple #[.int .i64 p, v]) (by simp [results, Try.results27, go_sem]) rfl ?_
  exact ⟨⟨p, v, ps, rfl, HS.out, HO.out⟩, HB2.out⟩

set_option maxRecDepth 100000 in
theorem DrawWaysOf_any (a : Option Addr) (len cap : Nat) (bs : List Int) (w : World) (h : IsRowB .u8 w a len cap bs) :
    Calls Try.prog 31 #[.slice a len cap] w fun e w' => (∃ p v ps, e = .returned (.tuple #[.int .i64 p, v]) ∧ SyR p ps ∧ OwnS w' w.heap.size w'.heap.size v ps) ∧ Below w.heap.size w w' := by
  have T := Lib.hid (open_any a len cap bs w h)
  clear h
  go_enter Try.func31, Try.ntmps31
  go_wp2_with fail
  with_reducible refine T.out.mono ?_
  rintro e w1 ⟨⟨g, rfl, hg0, hg1, hr⟩, b1⟩
  have HR := Lib.hid hr
  have HB := Lib.hid b1
  clear hr b1
  go_wp2_with fail
  with_reducible refine (sayings_any g 0 12 w1 HR.out (by omega)).mono ?_
  rintro e w2 ⟨⟨p, v, ps, rfl, hs, ho⟩, -, ht⟩
  have HS := Lib.hid hs
  have HO := Lib.hid (ho.wide HB.out.size (Nat.le_refl _))
  have HB2 := Lib.hid (below_turned HB.out ht hg0 HB.out.size)
  clear hs ho ht
  go_wp2
  refine bodyPost_ret (v := .tuple #[.int .i64 p, v]) (by simp [results, Try.results31, go_sem]) rfl ?_
  exact ⟨⟨p, v, ps, rfl, HS.out, HO.out⟩, HB2.out⟩

set_option maxRecDepth 100000 in
theorem DrawFoundOut_any (a : Option Addr) (len cap : Nat) (bs : List Int) (w : World) (h : IsRowB .u8 w a len cap bs) :
    Calls Try.prog 35 #[.slice a len cap] w fun e w' => (∃ p v ps, e = .returned (.tuple #[.int .i64 p, v]) ∧ SyR p ps ∧ OwnS w' w.heap.size w'.heap.size v ps) ∧ Below w.heap.size w w' := by
  have T := Lib.hid (open_any a len cap bs w h)
  clear h
  go_enter Try.func35, Try.ntmps35
  go_wp2_with fail
  with_reducible refine T.out.mono ?_
  rintro e w1 ⟨⟨g, rfl, hg0, hg1, hr⟩, b1⟩
  have HR := Lib.hid hr
  have HB := Lib.hid b1
  clear hr b1
  go_wp2_with fail
  with_reducible refine (sayings_any g 0 12 w1 HR.out (by omega)).mono ?_
  rintro e w2 ⟨⟨p, v, ps, rfl, hs, ho⟩, -, ht⟩
  have HS := Lib.hid hs
  have HO := Lib.hid (ho.wide HB.out.size (Nat.le_refl _))
  have HB2 := Lib.hid (below_turned HB.out ht hg0 HB.out.size)
  clear hs ho ht
  go_wp2
  refine bodyPost_ret (v := .tuple #[.int .i64 p, v]) (by simp [results, Try.results35, go_sem]) rfl ?_
  exact ⟨⟨p, v, ps, rfl, HS.out, HO.out⟩, HB2.out⟩

set_option maxRecDepth 100000 in
theorem DrawKnownOf_any (a : Option Addr) (len cap : Nat) (bs : List Int) (w : World) (h : IsRowB .u8 w a len cap bs) :
    Calls Try.prog 37 #[.slice a len cap] w fun e w' => (∃ p v ps, e = .returned (.tuple #[.int .i64 p, v]) ∧ SyR p ps ∧ OwnS w' w.heap.size w'.heap.size v ps) ∧ Below w.heap.size w w' := by
  have T := Lib.hid (open_any a len cap bs w h)
  clear h
  go_enter Try.func37, Try.ntmps37
  go_wp2_with fail
  with_reducible refine T.out.mono ?_
  rintro e w1 ⟨⟨g, rfl, hg0, hg1, hr⟩, b1⟩
  have HR := Lib.hid hr
  have HB := Lib.hid b1
  clear hr b1
  go_wp2_with fail
  with_reducible refine (sayings_any g 0 12 w1 HR.out (by omega)).mono ?_
  rintro e w2 ⟨⟨p, v, ps, rfl, hs, ho⟩, -, ht⟩
  have HS := Lib.hid hs
  have HO := Lib.hid (ho.wide HB.out.size (Nat.le_refl _))
  have HB2 := Lib.hid (below_turned HB.out ht hg0 HB.out.size)
  clear hs ho ht
  go_wp2
  refine bodyPost_ret (v := .tuple #[.int .i64 p, v]) (by simp [results, Try.results37, go_sem]) rfl ?_
  exact ⟨⟨p, v, ps, rfl, HS.out, HO.out⟩, HB2.out⟩

theorem say_arg {g : Nat} {w w' : World} {lo : Nat} {v : Value} {ps : List Sy} (ho : OwnS w lo w.heap.size v ps) (ht : Turned g (g + 1) w w') (hg : g + 1 ≤ lo) : OwnS w' lo w'.heap.size v ps :=
  (ho.turned ht (Nat.le_refl _) (.inr hg)).wide (Nat.le_refl _) ht.size

set_option maxHeartbeats 6400000 in
set_option maxRecDepth 100000 in
theorem DrawCanSay_any (a : Option Addr) (len cap : Nat) (bs : List Int) (w : World) (h : IsRowB .u8 w a len cap bs) :
    Calls Try.prog 34 #[.slice a len cap] w fun e w' => (∃ p v ps by_ l, e = .returned (.tuple #[.int .i64 p, v, .int .i64 by_, .string (tx l)]) ∧ SyR p ps ∧ OwnS w' w.heap.size w'.heap.size v ps ∧ l.length ≤ 40 ∧ 0 ≤ by_ ∧ by_ ≤ 9) ∧ Below w.heap.size w w' := by
  have T := Lib.hid (open_any a len cap bs w h)
  clear h
  go_enter Try.func34, Try.ntmps34
  go_wp2_with fail
  with_reducible refine T.out.mono ?_
  rintro e w1 ⟨⟨g, rfl, hg0, hg1, hr⟩, b1⟩
  have HR := Lib.hid hr
  have HB := Lib.hid b1
  clear hr b1
  go_wp2_with fail
  with_reducible refine (sayings_any g 0 14 w1 HR.out (by omega)).mono ?_
  rintro e w2 ⟨⟨p, v, ps, rfl, hs, ho⟩, r2, t2⟩
  have HS := Lib.hid hs
  have HO2 := Lib.hid ho
  have HR2 := Lib.hid r2
  have HT2 := Lib.hid t2
  obtain ⟨hp0, hp5, -, -⟩ := hs
  clear ho t2 r2
  have hM : ∃ M : Nat, 1 ≤ M ∧ M ≤ 5 ∧ (p = 0 ∧ M = 1 ∨ p = (M : Int)) := by
    by_cases h0 : p = 0
    · exact ⟨1, by omega, by omega, .inl ⟨h0, rfl⟩⟩
    · exact ⟨p.toNat, by omega, by omega, .inr (by omega)⟩
  obtain ⟨M, hM1, hM5, hpM⟩ := hM
  have HSY := Lib.hid (fun B w hr hB => saying2_any g M ⟨hM1, hM5⟩ B w hr hB)
  rcases hpM with ⟨rfl, rfl⟩ | rfl
  · simp only [show ((1 : Nat) : Int) = 1 from rfl] at HSY
    go_wp2_with fail
    with_reducible refine (pick_any g 200 1 w2 HR2.out (by omega)).mono ?_
    rintro e w3 ⟨y, rfl, ⟨y0, y1, -⟩, r3, t3, -⟩
    obtain ⟨Y, rfl⟩ := Int.eq_ofNat_of_zero_le y0
    have hY : Y < 5 := by have := y1 (by omega); omega
    have HT3 := Lib.hid (turned_trans HT2.out t3)
    have HR3 := Lib.hid r3
    have HO3 := Lib.hid (say_arg HO2.out t3 (by omega))
    clear r3 t3 y1 HT2 HR2 HO2
    go_wp2_with fail
    with_reducible refine (HSY.out 201 _ HR3.out (by omega)).mono ?_
    rintro e w4 ⟨S, rfl, hS, r4, t4⟩
    have hl17 : lenD 2 = 17 := rfl
    have HT4 := Lib.hid (turned_trans HT3.out t4)
    have HR4 := Lib.hid (rdr_more (C := 300) r4 (by omega))
    have HO4 := Lib.hid (say_arg HO3.out t4 (by omega))
    clear r4 t4 HT3 HR3 HO3
    go_wp2_with fail
    with_reducible refine (pick_any g 300 4 w4 HR4.out (by omega)).mono ?_
    rintro e w5 ⟨z, rfl, -, r5, t5, -⟩
    have HT5 := Lib.hid (turned_trans HT4.out t5)
    have HR5 := Lib.hid r5
    have HO5 := Lib.hid (say_arg HO4.out t5 (by omega))
    clear r5 t5 HT4 HR4 HO4
    by_cases hz : z = 0
    · subst hz
      go_wp2_with fail
      with_reducible refine (number_any Y (by omega) w5).mono ?_
      rintro e w6 ⟨⟨S6, rfl, hS6⟩, b6⟩
      have HT6 := Lib.hid (HT5.out.grow b6)
      have HR6 := Lib.hid (rdr_below HR5.out b6)
      have HO6 := Lib.hid ((HO5.out.below b6 (Nat.le_refl _)).wide (Nat.le_refl _) b6.size)
      clear b6 HT5 HR5 HO5
      have hs7 : ((⟨#[33]⟩ : ByteArray) ++ S6).size ≤ 40 := by rw [size_add, hS6]; decide
      go_wp2_with fail
      with_reducible refine (pick_any g 301 20 w6 HR6.out (by omega)).mono ?_
      rintro e w7 ⟨q, rfl, ⟨q0, q1, -⟩, r7, t7, -⟩
      have hq := q1 (by omega)
      have HT7 := Lib.hid (below_turned HB.out (turned_trans HT6.out t7) hg0 HB.out.size)
      have HO7 := Lib.hid ((say_arg HO6.out t7 (by omega)).wide HB.out.size (Nat.le_refl _))
      obtain ⟨l, hl, hll⟩ := tx_all ((⟨#[33]⟩ : ByteArray) ++ S6)
      have HL := Lib.hid hl
      clear r7 t7 q1 hl
      go_wp2
      refine bodyPost_ret (v := .tuple #[.int .i64 0, v, .int .i64 ((Y : Int) + q / 19 * 5), .string ((⟨#[33]⟩ : ByteArray) ++ S6)]) (by simp [results, Try.results34, go_sem]) rfl ?_
      exact ⟨⟨_, v, ps, _, l, by rw [← HL.out], HS.out, HO7.out, by omega, by omega, by omega⟩, HT7.out⟩
    · have hz' : (z == 0) = false := by rw [beq_eq_false_iff_ne]; exact hz
      go_wp2_with fail
      with_reducible refine (pick_any g 301 20 w5 HR5.out (by omega)).mono ?_
      rintro e w7 ⟨q, rfl, ⟨q0, q1, -⟩, r7, t7, -⟩
      have hq := q1 (by omega)
      have HT7 := Lib.hid (below_turned HB.out (turned_trans HT5.out t7) hg0 HB.out.size)
      have HO7 := Lib.hid ((say_arg HO5.out t7 (by omega)).wide HB.out.size (Nat.le_refl _))
      obtain ⟨l, hl, hll⟩ := tx_all S
      have HL := Lib.hid hl
      clear r7 t7 q1 hl
      go_wp2
      refine bodyPost_ret (v := .tuple #[.int .i64 0, v, .int .i64 ((Y : Int) + q / 19 * 5), .string S]) (by simp [results, Try.results34, go_sem]) rfl ?_
      exact ⟨⟨_, v, ps, _, l, by rw [← HL.out], HS.out, HO7.out, by omega, by omega, by omega⟩, HT7.out⟩
  · go_wp2_with fail
    with_reducible refine (pick_any g 200 (M : Int) w2 HR2.out (by omega)).mono ?_
    rintro e w3 ⟨y, rfl, ⟨y0, y1, -⟩, r3, t3, -⟩
    obtain ⟨Y, rfl⟩ := Int.eq_ofNat_of_zero_le y0
    have hY : Y < 5 := by have := y1 (by omega); omega
    have HT3 := Lib.hid (turned_trans HT2.out t3)
    have HR3 := Lib.hid r3
    have HO3 := Lib.hid (say_arg HO2.out t3 (by omega))
    clear r3 t3 y1 HT2 HR2 HO2
    go_wp2_with fail
    with_reducible refine (HSY.out 201 _ HR3.out (by omega)).mono ?_
    rintro e w4 ⟨S, rfl, hS, r4, t4⟩
    have hl17 : lenD 2 = 17 := rfl
    have HT4 := Lib.hid (turned_trans HT3.out t4)
    have HR4 := Lib.hid (rdr_more (C := 300) r4 (by omega))
    have HO4 := Lib.hid (say_arg HO3.out t4 (by omega))
    clear r4 t4 HT3 HR3 HO3
    go_wp2_with fail
    with_reducible refine (pick_any g 300 4 w4 HR4.out (by omega)).mono ?_
    rintro e w5 ⟨z, rfl, -, r5, t5, -⟩
    have HT5 := Lib.hid (turned_trans HT4.out t5)
    have HR5 := Lib.hid r5
    have HO5 := Lib.hid (say_arg HO4.out t5 (by omega))
    clear r5 t5 HT4 HR4 HO4
    by_cases hz : z = 0
    · subst hz
      go_wp2_with fail
      with_reducible refine (number_any Y (by omega) w5).mono ?_
      rintro e w6 ⟨⟨S6, rfl, hS6⟩, b6⟩
      have HT6 := Lib.hid (HT5.out.grow b6)
      have HR6 := Lib.hid (rdr_below HR5.out b6)
      have HO6 := Lib.hid ((HO5.out.below b6 (Nat.le_refl _)).wide (Nat.le_refl _) b6.size)
      clear b6 HT5 HR5 HO5
      have hs7 : ((⟨#[33]⟩ : ByteArray) ++ S6).size ≤ 40 := by rw [size_add, hS6]; decide
      go_wp2_with fail
      with_reducible refine (pick_any g 301 20 w6 HR6.out (by omega)).mono ?_
      rintro e w7 ⟨q, rfl, ⟨q0, q1, -⟩, r7, t7, -⟩
      have hq := q1 (by omega)
      have HT7 := Lib.hid (below_turned HB.out (turned_trans HT6.out t7) hg0 HB.out.size)
      have HO7 := Lib.hid ((say_arg HO6.out t7 (by omega)).wide HB.out.size (Nat.le_refl _))
      obtain ⟨l, hl, hll⟩ := tx_all ((⟨#[33]⟩ : ByteArray) ++ S6)
      have HL := Lib.hid hl
      clear r7 t7 q1 hl
      go_wp2
      refine bodyPost_ret (v := .tuple #[.int .i64 (M : Int), v, .int .i64 ((Y : Int) + q / 19 * 5), .string ((⟨#[33]⟩ : ByteArray) ++ S6)]) (by simp [results, Try.results34, go_sem]) rfl ?_
      exact ⟨⟨_, v, ps, _, l, by rw [← HL.out], HS.out, HO7.out, by omega, by omega, by omega⟩, HT7.out⟩
    · have hz' : (z == 0) = false := by rw [beq_eq_false_iff_ne]; exact hz
      go_wp2_with fail
      with_reducible refine (pick_any g 301 20 w5 HR5.out (by omega)).mono ?_
      rintro e w7 ⟨q, rfl, ⟨q0, q1, -⟩, r7, t7, -⟩
      have hq := q1 (by omega)
      have HT7 := Lib.hid (below_turned HB.out (turned_trans HT5.out t7) hg0 HB.out.size)
      have HO7 := Lib.hid ((say_arg HO5.out t7 (by omega)).wide HB.out.size (Nat.le_refl _))
      obtain ⟨l, hl, hll⟩ := tx_all S
      have HL := Lib.hid hl
      clear r7 t7 q1 hl
      go_wp2
      refine bodyPost_ret (v := .tuple #[.int .i64 (M : Int), v, .int .i64 ((Y : Int) + q / 19 * 5), .string S]) (by simp [results, Try.results34, go_sem]) rfl ?_
      exact ⟨⟨_, v, ps, _, l, by rw [← HL.out], HS.out, HO7.out, by omega, by omega, by omega⟩, HT7.out⟩

end Go.Proofs.Ytajelgheccfcoaa
