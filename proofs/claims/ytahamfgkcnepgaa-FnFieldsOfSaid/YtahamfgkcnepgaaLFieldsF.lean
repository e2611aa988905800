/- The walk of the law on FieldsOf. -/
import Derived.Test.YtahamfgkcnepgaaFields
import Derived.Test.YtahamfgkcnepgaaDrawVis
import Derived.Test.YtahamfgkcnepgaaAlive
namespace Go.Proofs.Ytahamfgkcnepgaa
open Go.RowKit

set_option maxHeartbeats 800000 in
set_option maxRecDepth 100000 in
theorem DrawFieldsOf_any (a : Option Addr) (len cap : Nat) (bs : List Int) (w : World) (h : IsRowB .u8 w a len cap bs) :
    Calls Try.prog 44 #[.slice a len cap] w fun e w' => (∃ r c d l, e = .returned (.tuple #[.agg #[.int .i64 r, .int .i64 c, .int .i64 d], .int .i64 l]) ∧ (0 ≤ r ∧ r ≤ 6) ∧ (-1 ≤ c ∧ c ≤ 6) ∧ (0 ≤ d ∧ d ≤ 2) ∧ (0 ≤ l ∧ l ≤ 5)) ∧ Below w.heap.size w w' := by
  have hz := heap_alloc_new w (.cells #[.int .i64 0, .int .i64 0, .int .i64 0] 26)
  have hb0 : Below w.heap.size w (w.alloc (.cells #[.int .i64 0, .int .i64 0, .int .i64 0] 26)) := (Below.refl _ _).alloc (Nat.le_refl _) _
  have h1 : IsRowB .u8 (w.alloc (.cells #[.int .i64 0, .int .i64 0, .int .i64 0] 26)) a len cap bs := by
    rcases h with h | ⟨x, h1, h2, h3, h4, h5, h6⟩
    · exact .inl h
    · exact .inr ⟨x, h1, h2, h3, h4, fun i hi => by have hc := h5 i hi; exact (hb0.cell (block_lt_of_cell hc)).trans hc, h6⟩
  go_enter Try.func44, Try.ntmps44
  go_wp2_with fail
  refine (open_any _ _ _ bs _ h1).mono ?_
  rintro e w1 ⟨⟨g, rfl, hg1, hg2, hr⟩, b1⟩
  rw [World.size_alloc] at hg1 b1
  have s1 := b1.size
  rw [World.size_alloc] at s1
  have hz1 := (b1.block _ (by omega)).trans hz
  have bb1 := hb0.trans (b1.mono (by omega))
  clear hz h1 hb0 b1
  go_wp2_with fail
  refine (pick_any g 0 7 _ hr (by omega)).mono ?_
  rintro e w2 ⟨x1, rfl, ⟨p1, q1, -⟩, r2, t2, z2⟩
  have q1 := q1 (by omega)
  go_wp2_with fail
  refine (pick_any g 1 7 _ r2 (by omega)).mono ?_
  rintro e w3 ⟨x2, rfl, ⟨p2, q2, -⟩, r3, t3, z3⟩
  have q2 := q2 (by omega)
  have t3 := turned_trans t2 t3
  clear t2
  go_wp2_with fail
  refine (pick_any g 2 20 _ r3 (by omega)).mono ?_
  rintro e w4 ⟨x3, rfl, ⟨p3, q3, -⟩, r4, t4, z4⟩
  have q3 := q3 (by omega)
  have t4 := turned_trans t3 t4
  clear t3
  go_wp2_with fail
  refine (pick_any g 3 2 _ r4 (by omega)).mono ?_
  rintro e w5 ⟨x4, rfl, ⟨p4, q4, -⟩, r5, t5, z5⟩
  have q4 := q4 (by omega)
  have t5 := turned_trans t4 t5
  clear t4
  go_wp2_with fail
  refine (pick_any g 4 20 _ r5 (by omega)).mono ?_
  rintro e w6 ⟨x5, rfl, ⟨p5, q5, -⟩, r6, t6, z6⟩
  have q5 := q5 (by omega)
  have t6 := turned_trans t5 t6
  clear t5
  go_wp2_with fail
  refine (pick_any g 5 6 _ r6 (by omega)).mono ?_
  rintro e w7 ⟨x6, rfl, ⟨p6, q6, -⟩, r7, t7, z7⟩
  have q6 := q6 (by omega)
  have t7 := turned_trans t6 t7
  have hz7 := (t7.block _ (by omega) (.inl (by omega))).trans hz1
  have bb7 := below_turned bb1 t7 (by omega) (by omega)
  have HT := Lib.hid (fun x y z => set3 hz7 x y z)
  have HB := Lib.hid bb7
  obtain ⟨⟨k0, k1, k2⟩, f0, f1, f2, -⟩ := blk3 hz7
  have e3 : x3.tdiv 19 = x3 / 19 := Int.tdiv_eq_ediv_of_nonneg p3
  have e5 : x5.tdiv 19 = x5 / 19 := Int.tdiv_eq_ediv_of_nonneg p5
  clear t6 t7 hz7 bb7 bb1 hz1 hr r2 r3 r4 r5 r6 r7 z2 z3 z4 z5 z6 z7
  go_wp2
  obtain ⟨t1, t2, t3⟩ := HT.out (.int .i64 x1) (.int .i64 (x2 - x3 / 19)) (.int .i64 (x4 + x5 / 19))
  have HF := Lib.hid (below_turned HB.out t2 (Nat.le_refl _) HB.out.size)
  obtain ⟨⟨j0, j1, j2⟩, -, -, -, -⟩ := blk3 t1
  refine bodyPost_ret (v := .tuple #[.agg #[.int .i64 x1, .int .i64 (x2 - x3 / 19), .int .i64 (x4 + x5 / 19)], .int .i64 x6]) (by simp [results, Try.results44, go_sem, j0, j1, j2]) rfl ?_
  exact ⟨⟨_, _, _, _, rfl, by omega, by omega, by omega, by omega⟩, HF.out⟩

set_option maxHeartbeats 1600000 in
set_option maxRecDepth 100000 in
theorem walk_FnFieldsOf (a0 : Option Addr) (len0 cap0 : Nat) (z0 : List Int) (w : World) (w0 : IsRowB .u8 w a0 len0 cap0 z0) :
    Calls Try.prog 11 #[.slice a0 len0 cap0] w fun e w' => e = .returned (.bool true) ∧ Below w.heap.size w w' := by
  by_cases hlen : 1048576 < len0
  · go_enter Try.func11, Try.ntmps11
    go_wp2
    go_ret
    exact ⟨rfl, Below.refl _ _⟩
  · go_enter Try.func11, Try.ntmps11
    go_wp2_with fail
    refine (DrawFieldsOf_any _ _ _ _ _ w0).mono ?_
    rintro e w1 ⟨⟨r, c, d, l, rfl, hr, hc, hd, hl⟩, b1⟩
    have s1 := b1.size
    have ba := (Below.refl w1.heap.size w1).alloc (Nat.le_refl _) (.cells #[.int .i64 r, .int .i64 c, .int .i64 d] 26)
    have g1 := heap_alloc_new w1 (.cells #[.int .i64 r, .int .i64 c, .int .i64 d] 26)
    have bb := b1.trans (ba.mono s1)
    have HG := Lib.hid g1; have HB := Lib.hid bb
    clear w0 b1 ba g1 bb
    go_wp2_with fail
    refine (implFieldsOf_any (d := d) r c l _).mono ?_
    rintro e w2 ⟨v, us, rfl, o2, b2⟩
    rw [World.size_alloc] at b2 o2
    have s2 := b2.size
    rw [World.size_alloc] at s2
    have g2 := (b2.block _ (by omega)).trans HG.out
    obtain ⟨⟨k0, k1, k2⟩, -, -, -, kz⟩ := blk3 g2
    have HG2 := Lib.hid g2
    have HB2 := Lib.hid (HB.out.trans (b2.mono (by omega)))
    clear HG HB b2 g2
    go_wp2_with fail
    refine (specFieldsOf_any (d := d) r c l _ (by omega) (by omega)).mono ?_
    rintro e w3 ⟨v3, us3, rfl, o3, b3⟩
    have s3 := b3.size
    have g3 := (b3.block _ kz).trans HG2.out
    have HB3 := Lib.hid (HB2.out.trans (b3.mono (by omega)))
    have hR := (o2.below b3 (Nat.le_refl _)).rd
    have hR3 := o3.rd
    clear b3 o2 o3 HG2 HB2 k0 k1 k2
    obtain ⟨⟨k0, k1, k2⟩, -, -, -, -⟩ := blk3 g3
    clear g3
    go_wp2_with fail
    refine (sameRows_true _ _ _ _ hR hR3).mono ?_
    rintro e w4 ⟨rfl, n, rfl⟩
    have HB4 := Lib.hid (below_drewN HB3.out n)
    have hR4 := hR
    clear hR hR3 HB3
    rcases Bool.eq_false_or_eq_true (fieldsB r c d l) with hb | hb
    · obtain ⟨q1, q2, q3, q4, q5, q6⟩ := fieldsB_yes hb
      obtain ⟨N, rfl⟩ := Int.eq_ofNat_of_zero_le (a := l) (by omega)
      have hF : fieldsI r c d N = fieldsL r c d N := by unfold fieldsI; rw [if_pos hb]; rfl
      rw [hF] at hR4
      obtain ⟨a, cp, rfl, l1, m1, r1⟩ := hR4
      have hll := length_fieldsL r c d N
      have hrow : ∀ k, k < N → (fieldsL r c d N).getD k [] = [r + k * d, c + k * (1 - d)] := fun k hk => by simp [fieldsL, List.getD, hk]
      have HROW := Lib.hid hrow
      rw [hll] at r1 l1 ⊢
      clear hb hF hll hrow
      have hN : N ≠ 0 := by omega
      have hNq : ((N : Int) == 0) = false := by simp; omega
      go_wp2_with fail
      go_loopw [6] (fun i wr => ∃ k : Nat, k ≤ N ∧ i = .int .i64 k ∧ ∃ m, wr = w3.drewN m) (fun i _ => N - (intOf i).toNat)
      case atStart => exact ⟨0, Nat.zero_le _, rfl, n, rfl⟩
      case round =>
        obtain ⟨k, hk, rfl, m, rfl⟩ := hrel
        by_cases hlt : k < N
        · obtain ⟨g, off, rfl, hg, hcell⟩ := r1 (by omega)
          obtain ⟨u, hu, A, cu, rfl, l2, m2, r2⟩ := hcell k hlt
          rw [HROW.out k hlt] at r2 hu l2
          obtain ⟨gu, ou, rfl, hgu, hcu⟩ := r2 (by simp)
          have c0 := hcu 0 (by simp)
          have c1 := hcu 1 (by simp)
          simp only [List.length_cons, List.length_nil, List.getD_cons_zero, List.getD_cons_succ, Nat.add_zero] at c0 c1 hu
          clear hcu hcell r1 r2
          rcases q2 with rfl | rfl
          · rw [show r + (k : Int) * 0 = r from by omega] at c0
            rw [show c + (k : Int) * (1 - 0) = c + k from by omega] at c1
            go_wp2
            go_quiet (fail)
            go_wp2
            go_roundw
            case rel => exact ⟨k + 1, by omega, by go_num, _, rfl⟩
            case measure => simp [intOf]; omega
          · rw [show r + (k : Int) * 1 = r + k from by omega] at c0
            rw [show c + (k : Int) * (1 - 1) = c from by omega] at c1
            go_wp2
            go_quiet (fail)
            go_wp2
            go_roundw
            case rel => exact ⟨k + 1, by omega, by go_num, _, rfl⟩
            case measure => simp [intOf]; omega
        · have hk' : k = N := by omega
          subst hk'
          have HE : Hid (Below w.heap.size w (w3.drewN m)) := below_drewN (a := w) (w := w3) ⟨HB4.out.os, HB4.out.tape, HB4.out.output, HB4.out.size, HB4.out.block⟩ m
          clear r1
          go_wp2
          go_ret
          exact ⟨rfl, HE.out⟩
    · have hF : fieldsI r c d l = [] := by unfold fieldsI; rw [hb]; rfl
      rw [hF] at hR4
      obtain ⟨a, cp, rfl, -⟩ := hR4
      clear hb hF
      go_wp2_with fail
      refine (alive_true _).mono ?_
      rintro e w5 ⟨rfl, rfl⟩
      go_wp2
      go_ret
      exact ⟨rfl, HB4.out⟩
end Go.Proofs.Ytahamfgkcnepgaa
