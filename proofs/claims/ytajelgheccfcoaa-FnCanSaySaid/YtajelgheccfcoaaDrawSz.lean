/- Drawn texts: one step deeper. -/
import Derived.Test.YtajelgheccfcoaaDrawSy
namespace Go.Proofs.Ytajelgheccfcoaa
open Go.RowKit

set_option maxHeartbeats 12800000 in
set_option maxRecDepth 100000 in
theorem saying_step (g p d : Nat) (hp : 1 ≤ p ∧ p ≤ 5) (hd : d ≤ 5) (N : Nat) (hN : N ≤ 900000) (ih : ∀ B w, Rdr w g B → B ≤ N → Calls Try.prog 56 #[.pointer (some ⟨g, 0, none⟩), .int .i64 (p : Int), .int .i64 (d : Int)] w (SayPost g B d w)) (B : Nat) (w : World) (h : Rdr w g B) (hB : B + 300 ≤ N) (hl : lenD d ≤ 200) :
    Calls Try.prog 56 #[.pointer (some ⟨g, 0, none⟩), .int .i64 (p : Int), .int .i64 ((d : Int) + 1)] w (SayPost g B (d + 1) w) := by
  have IH := Lib.hid ih
  clear ih
  have hd0 : ((d : Int) + 1 == 0) = false := by rw [beq_eq_false_iff_ne]; omega
  go_enter Try.func56, Try.ntmps56
  go_wp2_with fail
  with_reducible refine (pick_any g B 3 w h (by omega)).mono ?_
  rintro e w1 ⟨x, rfl, ⟨p0, p1, -⟩, r1, t1, -⟩
  have HT1 := Lib.hid t1
  have HR1 := Lib.hid r1
  clear t1 r1 p1
  by_cases hx : x = 0
  · subst hx
    go_wp2_with fail
    with_reducible refine (pick_any g (B + 1) 4 w1 HR1.out (by omega)).mono ?_
    rintro e w2 ⟨x, rfl, ⟨p0, p1, -⟩, r2, t2, -⟩
    have HT2 := Lib.hid (turned_trans HT1.out t2)
    have HR2 := Lib.hid r2
    clear t2 r2 p1
    by_cases hx : x = 0
    · subst hx
      go_wp2_with fail
      with_reducible refine (pick_any g (B + 2) _ w2 HR2.out (by omega)).mono ?_
      rintro e w3 ⟨y, rfl, ⟨q0, q1, -⟩, r3, t3, -⟩
      obtain ⟨Y, rfl⟩ := Int.eq_ofNat_of_zero_le q0
      have hY : Y < 10 := by have := q1 (by omega); omega
      have HT3 := Lib.hid (turned_trans HT2.out t3)
      have HR3 := Lib.hid r3
      clear t3 r3 q1
      go_wp2_with fail
      with_reducible refine (number_any Y hY w3).mono ?_
      rintro e w4 ⟨⟨S, rfl, hS⟩, b4⟩
      have HT4 := Lib.hid (HT3.out.grow b4)
      have HR4 := Lib.hid (rdr_below HR3.out b4)
      clear b4
      go_wp2
      go_ret
      exact ⟨_, rfl, by rw [size_add, hS]; show 1 + 1 ≤ lenD (d + 1); simp only [lenD]; omega, rdr_more HR4.out (by simp only [lenD]; omega), HT4.out⟩
    · have hx' : (x == 0) = false := by rw [beq_eq_false_iff_ne]; exact hx
      go_wp2_with fail
      with_reducible refine (pick_any g (B + 2) _ w2 HR2.out (by omega)).mono ?_
      rintro e w3 ⟨y, rfl, ⟨q0, q1, -⟩, r3, t3, -⟩
      obtain ⟨Y, rfl⟩ := Int.eq_ofNat_of_zero_le q0
      have hY : Y < 10 := by have := q1 (by omega); omega
      have HT3 := Lib.hid (turned_trans HT2.out t3)
      have HR3 := Lib.hid r3
      clear t3 r3 q1
      go_wp2_with fail
      with_reducible refine (number_any Y hY w3).mono ?_
      rintro e w4 ⟨⟨S, rfl, hS⟩, b4⟩
      have HT4 := Lib.hid (HT3.out.grow b4)
      have HR4 := Lib.hid (rdr_below HR3.out b4)
      clear b4
      go_wp2
      go_ret
      exact ⟨_, rfl, by rw [hS]; show 1 ≤ lenD (d + 1); simp only [lenD]; omega, rdr_more HR4.out (by simp only [lenD]; omega), HT4.out⟩
  · have hx' : (x == 0) = false := by rw [beq_eq_false_iff_ne]; exact hx
    go_wp2_with fail
    with_reducible refine (pick_any g (B + 1) 3 w1 HR1.out (by omega)).mono ?_
    rintro e w2 ⟨y, rfl, ⟨q0, q1, -⟩, r2, t2, -⟩
    have HT2 := Lib.hid (turned_trans HT1.out t2)
    have HR2 := Lib.hid r2
    clear t2 r2 q1
    by_cases hy : y = 0
    · subst hy
      go_wp2_with fail
      with_reducible refine (IH.out (B + 2) w2 HR2.out (by omega)).mono ?_
      rintro e w3 ⟨S, rfl, hS, r3, t3⟩
      have HT3 := Lib.hid (turned_trans HT2.out t3)
      have HR3 := Lib.hid r3
      clear t3 r3
      have hS2 : S.size ≤ 200 := by omega
      go_wp2
      go_ret
      exact ⟨_, rfl, by rw [size_add]; show 1 + S.size ≤ lenD (d + 1); simp only [lenD]; omega, rdr_more HR3.out (by simp only [lenD]; omega), HT3.out⟩
    · have hy' : (y == 0) = false := by rw [beq_eq_false_iff_ne]; exact hy
      have hg2 := rdr_lt HR2.out
      go_wp2_with fail
      have hw1 : IntKind.i64.wrap ((d : Int) + 1 - 1) = (d : Int) := by rw [IntKind.wrap_i64]; omega
      have hw2 : IntKind.i64.wrap (d : Int) = (d : Int) := by rw [IntKind.wrap_i64]; omega
      go_region_with (first | (go_at_call 56; refine (IH.out (B + 3 + lenD d) _ (by first | exact r7 | exact rdr_alloc r7 _) (by omega)).mono ?_; rintro e w9 ⟨S9, rfl, n9, r9, t9⟩; have g9 := rdr_lt r9; have m9 : S9.size ≤ 200 := Nat.le_trans n9 hl; have k9 : (9223372036854775807 < 1 + S5.size + 1 + S9.size) = False := eq_false (by omega); have k10 : (9223372036854775807 < 1 + S5.size + 1 + S9.size + 1) = False := eq_false (by omega); have u9 : Turned g (g + 1) w w9 := (by first | exact turned_trans u7 t9 | exact turned_trans (turned_alloc u7 _) t9); (try have a9 : w9.cell? ⟨w2.heap.size, X7, none⟩ = some (.string (pickS X7)) := cell_t t9 (by omega) (by first | exact a7 | exact cell_u a7)); (try have b9 : w9.cell? ⟨w5.heap.size, X7, none⟩ = some (.string (pickS X7)) := cell_t t9 (by omega) (by first | exact b7 | exact cell_u b7)); (try have c9 : w9.cell? ⟨w7.heap.size, X7, none⟩ = some (.string (pickS X7)) := cell_t t9 (by omega) (litS_0 q7)); clear t9) | (go_at_call 55; refine (pick_any g (B + 2 + lenD d) 3 _ (by first | exact r5 | exact rdr_alloc r5 _) (by omega)).mono ?_; rintro e w7 ⟨x7, rfl, ⟨p7, q7, -⟩, r7, t7, z7⟩; have r7 := rdr_more (C := B + 3 + lenD d) r7 (by omega); have g7 := rdr_lt r7; have u7 : Turned g (g + 1) w w7 := (by first | exact turned_trans u5 t7 | exact turned_trans (turned_alloc u5 _) t7); obtain ⟨X7, rfl⟩ := Int.eq_ofNat_of_zero_le p7; have q7 : X7 < 3 := (by have := q7 (by omega); omega); (try have a7 : w7.cell? ⟨w2.heap.size, X7, none⟩ = some (.string (pickS X7)) := cell_t t7 (by omega) (by first | exact a5 X7 q7 | exact cell_u (a5 X7 q7))); (try have b7 : w7.cell? ⟨w5.heap.size, X7, none⟩ = some (.string (pickS X7)) := cell_t t7 (by omega) (litS_0 q7)); have l7 := @litS_get X7; have y7 := pickS_size q7; have k7 : (9223372036854775807 < 1 + S5.size + 1) = False := eq_false (by omega); clear t7 z7) | (go_at_call 56; refine (IH.out (B + 2) _ (by first | exact HR2.out | exact rdr_alloc HR2.out _) (by omega)).mono ?_; rintro e w5 ⟨S5, rfl, n5, r5, t5⟩; have g5 := rdr_lt r5; have m5 : S5.size ≤ 200 := Nat.le_trans n5 hl; have k5 : (9223372036854775807 < 1 + S5.size) = False := eq_false (by omega); have u5 : Turned g (g + 1) w w5 := (by first | exact turned_trans (turned_drew HT2.out) t5 | exact turned_trans (turned_drew (turned_alloc HT2.out _)) t5 | exact turned_trans (turned_alloc (turned_drew HT2.out) _) t5); (try have a5 : ∀ X, X < 3 → w5.cell? ⟨w2.heap.size, X, none⟩ = some (.string (pickS X)) := fun X hX => cell_t t5 (by omega) (litS_0 hX)); clear t5))
      all_goals go_wp2
      all_goals go_ret
      all_goals first | exact ⟨_, rfl, say_size n5 y7 n9, rdr_more r9 (by simp only [lenD]; omega), u9⟩ | exact ⟨_, rfl, say_size n5 y7 n9, rdr_more (rdr_alloc r9 _) (by simp only [lenD]; omega), turned_alloc u9 _⟩

theorem saying2_any (g p : Nat) (hp : 1 ≤ p ∧ p ≤ 5) (B : Nat) (w : World) (h : Rdr w g B) (hB : B ≤ 5000) : Calls Try.prog 56 #[.pointer (some ⟨g, 0, none⟩), .int .i64 (p : Int), .int .i64 2] w (SayPost g B 2 w) := by
  have h0 : ∀ B w, Rdr w g B → B ≤ 900000 → Calls Try.prog 56 #[.pointer (some ⟨g, 0, none⟩), .int .i64 (p : Int), .int .i64 ((0 : Nat) : Int)] w (SayPost g B 0 w) := fun B w h hB => saying_leaf g B p w h hB hp
  have h1 : ∀ B w, Rdr w g B → B ≤ 800000 → Calls Try.prog 56 #[.pointer (some ⟨g, 0, none⟩), .int .i64 (p : Int), .int .i64 ((1 : Nat) : Int)] w (SayPost g B 1 w) := fun B w h hB =>
    saying_step g p 0 hp (by omega) 900000 (by omega) h0 B w h (by omega) (by decide)
  exact saying_step g p 1 hp (by omega) 800000 (by omega) h1 B w h (by omega) (by decide)
end Go.Proofs.Ytajelgheccfcoaa
