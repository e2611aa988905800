/- The draw of the law on HitsOf. -/
import Derived.Test.YtahamfgkcnepgaaDrawSt
import Derived.Test.YtahamfgkcnepgaaHits
namespace Go.Proofs.Ytahamfgkcnepgaa
open Go.RowKit

theorem turned_wide {lo hi lo' hi' : Nat} {w w' : World} (h : Turned lo hi w w') (h1 : lo' ≤ lo) (h2 : hi ≤ hi') : Turned lo' hi' w w' :=
  ⟨h.os, h.tape, h.output, h.size, fun k hk hne => h.block k hk (by omega)⟩

/-- Behind the store of the drawn place into the result's cell. -/
theorem place_out {w w2 W F : World} {g : Nat} {v : Value} {zss : List (List Int)} {x y z a b c : Value} {t : TypeId} (hz : W.heap[w.heap.size]? = some (.cells #[a, b, c] t (0, 0))) (hb : Below w.heap.size w W) (hg : w.heap.size < g) (hR : ∀ W, Turned 0 (g + 1) w2 W → RdR W v zss) (ht : Turned 0 (g + 1) w2 W)
    (hF : F = (((W.setCell ⟨w.heap.size, 0, none⟩ x).setCell ⟨w.heap.size, 1, none⟩ y).setCell ⟨w.heap.size, 2, none⟩ z).drew) :
    (F.cell? ⟨w.heap.size, 0, none⟩ = some x ∧ F.cell? ⟨w.heap.size, 1, none⟩ = some y ∧ F.cell? ⟨w.heap.size, 2, none⟩ = some z) ∧ RdR F v zss ∧ Below w.heap.size w F := by
  obtain ⟨t1, t2, t3⟩ := set3 hz x y z
  obtain ⟨j, -, -, -, -⟩ := blk3 t1
  subst hF
  have t4 := turned_drew t2
  exact ⟨j, hR _ (turned_trans ht (turned_wide t4 (Nat.zero_le _) (by omega))), below_turned hb t4 (Nat.le_refl _) hb.size⟩

set_option maxHeartbeats 1600000 in
set_option maxRecDepth 100000 in
theorem DrawHitsOf_any (a : Option Addr) (len cap : Nat) (bs : List Int) (w : World) (h : IsRowB .u8 w a len cap bs) :
    Calls Try.prog 52 #[.slice a len cap] w fun e w' => (∃ r c v zss x y z l, e = .returned (.tuple #[.int .i64 r, .int .i64 c, v, .agg #[.int .i64 x, .int .i64 y, .int .i64 z], .int .i64 l]) ∧ RdR w' v zss ∧ (0 ≤ x ∧ x ≤ 6) ∧ (0 ≤ y ∧ y ≤ 6)) ∧ Below w.heap.size w w' := by
  have hz := heap_alloc_new w (.cells #[.int .i64 0, .int .i64 0, .int .i64 0] 26)
  have hb0 : Below w.heap.size w (w.alloc (.cells #[.int .i64 0, .int .i64 0, .int .i64 0] 26)) := (Below.refl _ _).alloc (Nat.le_refl _) _
  have h1 : IsRowB .u8 (w.alloc (.cells #[.int .i64 0, .int .i64 0, .int .i64 0] 26)) a len cap bs := by
    rcases h with h | ⟨x, h1, h2, h3, h4, h5, h6⟩
    · exact .inl h
    · exact .inr ⟨x, h1, h2, h3, h4, fun i hi => by have hc := h5 i hi; exact (hb0.cell (block_lt_of_cell hc)).trans hc, h6⟩
  go_enter Try.func52, Try.ntmps52
  go_wp2_with fail
  refine (open_any _ _ _ bs _ h1).mono ?_
  rintro e w1 ⟨⟨g, rfl, hg1, hg2, hr⟩, b1⟩
  rw [World.size_alloc] at hg1 b1
  have s1 := b1.size
  rw [World.size_alloc] at s1
  have hz1 := (b1.block _ (by omega)).trans hz
  have bb1 := hb0.trans (b1.mono (by omega))
  clear hz h1 hb0 b1
  go_wp2_with fail
  refine (shots_any g 0 12 _ hr (by omega)).mono ?_
  rintro e w2 ⟨⟨r, c, l, v, zss, rfl, k1, k2, k3, ⟨-, hR⟩, -, -⟩, r2, t2⟩
  have s2 := t2.size
  have hz2 := (t2.block _ (by omega) (.inl (by omega))).trans hz1
  have bb2 := below_turned bb1 t2 (by omega) (by omega)
  have hg3 := rdr_lt r2
  clear hr hz1 bb1 t2
  go_wp2_with fail
  refine (specPlacesOf_any r c l w2).mono ?_
  rintro e w3 ⟨v3, rfl, o3, b3⟩
  have s3 := b3.size
  have hz3 := (b3.block _ (by omega)).trans hz2
  have r3 := rdr_keep r2 (fun k hk => b3.block k (by omega))
  have bb3 := bb2.trans (b3.mono (by omega))
  have hps := length_placesI r c l
  have HM : Hid (∀ x y z : Int, (x, y, z) ∈ placesI r c l → (0 ≤ x ∧ x ≤ 6) ∧ (0 ≤ y ∧ y ≤ 6)) := by
    intro x y z hm
    obtain ⟨R, C, L, r, c, d, rfl, rfl, rfl, hb, hp, hl, hL1⟩ := mem_placesI hm
    injection hp with e1 e2
    injection e2 with e2 e3
    subst e1 e2 e3
    obtain ⟨p1, p2, p3⟩ := placesB_yes hb
    rcases hl with ⟨_, h1, h2⟩ | ⟨_, h1, h2⟩ <;> omega
  generalize placesI r c l = ps at o3 HM hps
  clear r2 bb2
  go_wp2_with fail
  refine (pick_any g _ 6 _ r3 (by omega)).mono ?_
  rintro e w4 ⟨x1, rfl, ⟨p1, q1, -⟩, r4, t4, z4⟩
  have q1 := q1 (by omega)
  go_wp2_with fail
  refine (pick_any g _ 6 _ r4 (by omega)).mono ?_
  rintro e w5 ⟨x2, rfl, ⟨p2, q2, -⟩, r5, t5, z5⟩
  have q2 := q2 (by omega)
  have t5 := turned_trans t4 t5
  clear t4
  go_wp2_with fail
  refine (pick_any g _ 2 _ r5 (by omega)).mono ?_
  rintro e w6 ⟨x3, rfl, ⟨p3, q3, -⟩, r6, t6, z6⟩
  have q3 := q3 (by omega)
  have t6 := turned_trans t5 t6
  have hRK : Hid (∀ W, Turned 0 (g + 1) w6 W → RdR W v zss) := fun W hW => hR W (turned_trans ⟨b3.os, b3.tape, b3.output, b3.size, fun k hk _ => b3.block k hk⟩ (turned_trans (turned_wide t6 (Nat.zero_le _) (Nat.le_refl _)) hW))
  have s6 := t6.size
  have hz6 := (t6.block _ (by omega) (.inl (by omega))).trans hz3
  have o6 := o3.turned t6 (Nat.le_refl _) (.inr (by omega))
  have bb6 := below_turned bb3 t6 (by omega) (by omega)
  clear t5 t6 hR b3 bb3 hz3 o3 r3 r4 r5 z4 z5 z6 hz2
  obtain ⟨aP, cP, rfl, lP, mP, -⟩ := o6.rd
  have hwz : w.heap.size < w6.heap.size := (Array.getElem?_eq_some_iff.1 hz6).1
  -- the place that is drawn, in a block of its own
  obtain ⟨W6, hW6⟩ : ∃ W : World, W = w6.alloc (.cells #[.int .i64 x1, .int .i64 x2, .int .i64 x3] 26) := ⟨_, rfl⟩
  have ba : Below w6.heap.size w6 W6 := by rw [hW6]; exact (Below.refl _ _).alloc (Nat.le_refl _) _
  have gq := heap_alloc_new w6 (.cells #[.int .i64 x1, .int .i64 x2, .int .i64 x3] 26)
  rw [← hW6] at gq
  have hz7 := (ba.block _ hwz).trans hz6
  have bb7 := bb6.trans (ba.mono (by omega))
  have t7 : Turned 0 (g + 1) w6 W6 := ⟨ba.os, ba.tape, ba.output, ba.size, fun k hk _ => ba.block k hk⟩
  by_cases hn : ps.length = 0
  · have hn1 : ¬ (0 : Int) < (ps.length : Int) := by omega
    obtain ⟨⟨m0, m1, m2⟩, f0, f1, f2, -⟩ := blk3 hz7
    obtain ⟨⟨n0, n1, n2⟩, -, -, -, -⟩ := blk3 gq
    have HW6 := Lib.hid hW6
    have HOUT := Lib.hid (fun x y z F hF => place_out (x := x) (y := y) (z := z) (F := F) hz7 bb7 (by omega) hRK.out t7 hF)
    clear hW6 hz7 bb7 t7
    go_wp2_with fail
    rw [← HW6.out]
    go_wp2
    go_region
    go_wp2
    obtain ⟨j, hRF, hBF⟩ := HOUT.out (.int .i64 x1) (.int .i64 x2) (.int .i64 x3) _ rfl
    obtain ⟨j0, j1, j2⟩ := j
    refine bodyPost_ret (v := .tuple #[.int .i64 r, .int .i64 c, v, .agg #[.int .i64 x1, .int .i64 x2, .int .i64 x3], .int .i64 l]) (by simp [results, Try.results52, go_sem, j0, j1, j2]) rfl ?_
    exact ⟨⟨_, _, _, _, _, _, _, _, rfl, hRF, by omega, by omega⟩, hBF⟩
  · have hn1 : (0 : Int) < (ps.length : Int) := by omega
    have HW6 := Lib.hid hW6
    have r7 : Rdr W6 g 103 := rdr_keep r6 (fun k hk => ba.block k (by have := rdr_lt r6; omega))
    have HP7 := Lib.hid (o6.below ba (by omega))
    have s67 := ba.size
    have hq67 : w6.heap.size < W6.heap.size := (Array.getElem?_eq_some_iff.1 gq).1
    clear hW6
    go_wp2_with fail
    rw [← HW6.out]
    go_wp2_with fail
    refine (pick_any g _ 4 _ r7 (by omega)).mono ?_
    rintro e w8 ⟨x4, rfl, ⟨p4, q4, -⟩, r8, t8, z8⟩
    have hz8 := (t8.block _ (by omega) (.inl (by omega))).trans hz7
    have gq8 := (t8.block _ hq67 (.inr (by omega))).trans gq
    have bb8 := below_turned bb7 t8 (by omega) (by omega)
    have t78 := turned_trans t7 (turned_wide t8 (Nat.zero_le _) (Nat.le_refl _))
    have o8 := HP7.out.turned t8 (by omega) (.inr (by omega))
    clear t8 hz7 gq bb7 t7 r7 ba bb6 hz6 o6
    by_cases h4 : x4 = 0
    · subst h4
      have HOUT := Lib.hid (fun x y z F hF => place_out (x := x) (y := y) (z := z) (F := F) hz8 bb8 (by omega) hRK.out t78 hF)
      obtain ⟨⟨m0, m1, m2⟩, f0, f1, f2, -⟩ := blk3 hz8
      obtain ⟨⟨n0, n1, n2⟩, -, -, -, -⟩ := blk3 gq8
      clear hz8 gq8 bb8 t78 o8 r8
      go_wp2
      go_region
      go_wp2
      obtain ⟨j, hRF, hBF⟩ := HOUT.out (.int .i64 x1) (.int .i64 x2) (.int .i64 x3) _ rfl
      obtain ⟨j0, j1, j2⟩ := j
      refine bodyPost_ret (v := .tuple #[.int .i64 r, .int .i64 c, v, .agg #[.int .i64 x1, .int .i64 x2, .int .i64 x3], .int .i64 l]) (by simp [results, Try.results52, go_sem, j0, j1, j2]) rfl ?_
      exact ⟨⟨_, _, _, _, _, _, _, _, rfl, hRF, by omega, by omega⟩, hBF⟩
    · have h4' : 0 < x4 := by omega
      go_wp2_with fail
      refine (pick_any g _ ps.length _ r8 (by omega)).mono ?_
      rintro e w9 ⟨x5, rfl, ⟨p5, q5, -⟩, r9, t9, z9⟩
      have q5 := q5 (by omega)
      obtain ⟨k, rfl⟩ := Int.eq_ofNat_of_zero_le p5
      have hk : k < ps.length := by omega
      have hz9 := (t9.block _ (by omega) (.inl (by omega))).trans hz8
      have gq9 := (t9.block _ (by omega) (.inr (by omega))).trans gq8
      have bb9 := below_turned bb8 t9 (by omega) (by omega)
      have t79 := turned_trans t78 (turned_wide t9 (Nat.zero_le _) (Nat.le_refl _))
      have o9 := (o8.turned t9 (by omega) (.inr (by omega))).rd
      obtain ⟨_, _, e1, _, _, rr⟩ := o9
      injection e1 with e3 e4 e5; subst e3 e5
      obtain ⟨gP, oP, x, y, z, rfl, hgP, ⟨c0, c1, c2⟩, Z1⟩ := rdP_at rr k hk
      have hm := HM.out x y z (by rw [Z1.out]; simp [List.getD, List.getElem?_eq_getElem hk])
      obtain ⟨u1, u2, u3⟩ := set3 gq9 (.int .i64 x) (.int .i64 y) (.int .i64 z)
      obtain ⟨W9, hW9⟩ : ∃ W, W = ((w9.setCell ⟨w6.heap.size, 0, none⟩ (.int .i64 x)).setCell ⟨w6.heap.size, 1, none⟩ (.int .i64 y)).setCell ⟨w6.heap.size, 2, none⟩ (.int .i64 z) := ⟨_, rfl⟩
      rw [← hW9] at u1 u2 u3
      have hz10 := (u2.block _ (by omega) (.inl (by omega))).trans hz9
      have bb10 := below_turned bb9 u2 (by omega) (by omega)
      have t710 : Turned 0 (g + 1) w6 W9 := ⟨u2.os.trans t79.os, u2.tape.trans t79.tape, u2.output.trans t79.output, Nat.le_trans t79.size u2.size, fun k hk hne => (u2.block k (by have := t79.size; omega) (.inl (by omega))).trans (t79.block k hk hne)⟩
      have HOUT := Lib.hid (fun x y z F hF => place_out (x := x) (y := y) (z := z) (F := F) hz10 bb10 (by omega) hRK.out t710 hF)
      obtain ⟨⟨m0, m1, m2⟩, f0, f1, f2, -⟩ := blk3 hz10
      obtain ⟨⟨n0, n1, n2⟩, -, -, -, -⟩ := blk3 u1
      obtain ⟨⟨y0, y1, y2⟩, f3, f4, f5, -⟩ := blk3 gq9
      have HW9 := Lib.hid hW9
      clear hz8 gq8 bb8 t78 o8 r8 t9 hz9 gq9 bb9 t79 rr u1 u2 u3 hz10 bb10 t710 hW9 e4 z9 r9 q4
      go_wp2_with fail
      rw [← HW9.out]
      go_wp2
      go_region
      go_wp2
      obtain ⟨j, hRF, hBF⟩ := HOUT.out (.int .i64 x) (.int .i64 y) (.int .i64 z) _ rfl
      obtain ⟨j0, j1, j2⟩ := j
      refine bodyPost_ret (v := .tuple #[.int .i64 r, .int .i64 c, v, .agg #[.int .i64 x, .int .i64 y, .int .i64 z], .int .i64 l]) (by simp [results, Try.results52, go_sem, j0, j1, j2]) rfl ?_
      exact ⟨⟨_, _, _, _, _, _, _, _, rfl, hRF, by omega, by omega⟩, hBF⟩
end Go.Proofs.Ytahamfgkcnepgaa
