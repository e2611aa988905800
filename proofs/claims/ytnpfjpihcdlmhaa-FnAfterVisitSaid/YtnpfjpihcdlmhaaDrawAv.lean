/- Drawn rooms, and a drawn person beside one. -/
import Derived.Test.YtnpfjpihcdlmhaaDrawRoom
import Derived.Deep.RegionHeld3
namespace Go.Proofs.Ytnpfjpihcdlmhaa
open Go.RowKit

set_option maxRecDepth 100000 in
theorem DrawRoomOk_any (a : Option Addr) (len cap : Nat) (bs : List Int) (w : World) (h : IsRowB .u8 w a len cap bs) :
    Calls Try.prog 52 #[.slice a len cap] w fun e w' => (∃ sw cnt A c L, e = .returned (.agg #[.int .i64 sw, .int .i64 cnt, .slice A L.length c]) ∧ (-9 ≤ cnt ∧ cnt ≤ 2000) ∧ L.length ≤ 5 ∧ Own w' w.heap.size w'.heap.size (.slice A L.length c) L) ∧ Below w.heap.size w w' := by
  have hz := heap_alloc_new w (.cells #[.int .i64 0, .int .i64 0, .slice none 0 0] 30)
  have hb0 : Below w.heap.size w (w.alloc (.cells #[.int .i64 0, .int .i64 0, .slice none 0 0] 30)) := (Below.refl _ _).alloc (Nat.le_refl _) _
  have h1 : IsRowB .u8 (w.alloc (.cells #[.int .i64 0, .int .i64 0, .slice none 0 0] 30)) a len cap bs := by
    rcases h with h | ⟨x, h1, h2, h3, h4, h5, h6⟩
    · exact .inl h
    · exact .inr ⟨x, h1, h2, h3, h4, fun i hi => by have hc := h5 i hi; exact (hb0.cell (block_lt_of_cell hc)).trans hc, h6⟩
  go_enter Try.func52, Try.ntmps52
  go_wp2_with fail
  refine (open_any _ _ _ bs _ h1).mono ?_
  rintro e w1 ⟨⟨g, rfl, hg1, hg2, hr⟩, b1⟩
  rw [World.size_alloc] at hg1 b1
  have s1 := b1.size
  rw [World.size_alloc] at s1
  have hz1 := (b1.block _ (by omega)).trans hz
  clear hz h1
  go_wp2_with fail
  refine (room_any g 0 2 _ hr (by omega)).mono ?_
  rintro e w2 ⟨⟨sw, cnt, A, c, L, rfl, hcn, hL, ho⟩, -, t2⟩
  have hz2 := (t2.block _ (by omega) (.inl (by omega))).trans hz1
  have bb := below_turned (hb0.trans (b1.mono (by omega))) t2 (by omega) (by omega)
  have s2 := t2.size
  have HT := Lib.hid (set3 hz2 (.int .i64 sw) (.int .i64 cnt) (.slice A L.length c))
  have HB := Lib.hid (below_turned bb HT.out.2.1 (Nat.le_refl _) bb.size)
  have HO := Lib.hid ((ho.turned HT.out.2.1 (Nat.le_refl _) (.inr (by omega))).wide (lo' := w.heap.size) (hi' := w2.heap.size) (by omega) (Nat.le_refl _))
  obtain ⟨⟨x0, x1, x2⟩, y0, y1, y2, -⟩ := blk3 hz2
  clear t2 bb ho hz2 hz1 b1 hb0 hr
  go_wp2
  obtain ⟨⟨j0, j1, j2⟩, -, -, -, -⟩ := blk3 HT.out.1
  refine bodyPost_ret (v := .agg #[.int .i64 sw, .int .i64 cnt, .slice A L.length c]) (by simp [results, Try.results52, go_sem, j0, j1, j2]) rfl ?_
  exact ⟨⟨_, _, _, _, L, rfl, hcn, hL, HO.out.wide (Nat.le_refl _) (Nat.le_of_eq HT.out.2.2.symm)⟩, HB.out⟩

set_option maxHeartbeats 800000 in
set_option maxRecDepth 100000 in
theorem DrawAfterVisit_any (a : Option Addr) (len cap : Nat) (bs : List Int) (w : World) (h : IsRowB .u8 w a len cap bs) :
    Calls Try.prog 56 #[.slice a len cap] w fun e w' => (∃ sw cnt A c L x, e = .returned (.tuple #[.agg #[.int .i64 sw, .int .i64 cnt, .slice A L.length c], .int .i64 x]) ∧ (-9 ≤ cnt ∧ cnt ≤ 2000) ∧ L.length ≤ 5 ∧ (-1 ≤ x ∧ x ≤ 5) ∧ Own w' w.heap.size w'.heap.size (.slice A L.length c) L) ∧ Below w.heap.size w w' := by
  have hz := heap_alloc_new w (.cells #[.int .i64 0, .int .i64 0, .slice none 0 0] 30)
  have hb0 : Below w.heap.size w (w.alloc (.cells #[.int .i64 0, .int .i64 0, .slice none 0 0] 30)) := (Below.refl _ _).alloc (Nat.le_refl _) _
  have h1 : IsRowB .u8 (w.alloc (.cells #[.int .i64 0, .int .i64 0, .slice none 0 0] 30)) a len cap bs := by
    rcases h with h | ⟨x, h1, h2, h3, h4, h5, h6⟩
    · exact .inl h
    · exact .inr ⟨x, h1, h2, h3, h4, fun i hi => by have hc := h5 i hi; exact (hb0.cell (block_lt_of_cell hc)).trans hc, h6⟩
  go_enter Try.func56, Try.ntmps56
  go_wp2_with fail
  refine (open_any _ _ _ bs _ h1).mono ?_
  rintro e w1 ⟨⟨g, rfl, hg1, hg2, hr⟩, b1⟩
  rw [World.size_alloc] at hg1 b1
  have s1 := b1.size
  rw [World.size_alloc] at s1
  have hz1 := (b1.block _ (by omega)).trans hz
  clear hz h1
  go_wp2_with fail
  refine (room_any g 0 9 _ hr (by omega)).mono ?_
  rintro e w2 ⟨⟨sw, cnt, A, c, L, rfl, hcn, hL, ho⟩, r2, t2⟩
  have s2 := t2.size
  have hz2 := (t2.block _ (by omega) (.inl (by omega))).trans hz1
  have bb := below_turned (hb0.trans (b1.mono (by omega))) t2 (by omega) (by omega)
  obtain ⟨w3, hw3⟩ : ∃ w3 : World, w3 = w2.alloc (.cells #[.int .i64 sw, .int .i64 cnt, .slice A L.length c] 30) := ⟨_, rfl⟩
  have ba := (Below.refl w2.heap.size w2).alloc (Nat.le_refl _) (.cells #[.int .i64 sw, .int .i64 cnt, .slice A L.length c] 30)
  have g3 := heap_alloc_new w2 (.cells #[.int .i64 sw, .int .i64 cnt, .slice A L.length c] 30)
  rw [← hw3] at ba g3
  have s3 : w3.heap.size = w2.heap.size + 1 := by rw [hw3]; simp
  have hz3 := (ba.block _ (by omega)).trans hz2
  have r3 : Rdr w3 g 200 := rdr_keep r2 (fun k hk => ba.block k (by omega))
  have o3 := ho.below ba (Nat.le_refl _)
  have bb3 := bb.trans (ba.mono (by omega))
  obtain ⟨⟨k0, k1, k2⟩, -, -, -, kz⟩ := blk3 g3
  have zz : w.heap.size < w3.heap.size := by omega
  have HW3 := Lib.hid hw3; have HG := Lib.hid g3; have HZ := Lib.hid hz3; have HB := Lib.hid bb3; have HO := Lib.hid o3
  have hpl : (-1 : Int) ≤ (L.length : Int) + 1 ∧ (L.length : Int) + 1 ≤ 6 := by omega
  have hne : w.heap.size ≠ w2.heap.size := by omega
  clear t2 ho hz2 hz1 b1 hb0 hr bb ba g3 hz3 o3 bb3 hw3 r2
  go_wp2_with fail
  rw [← HW3.out]
  go_region_held3 (fun wx => wx.cell? ⟨w2.heap.size, 0, none⟩ = some (.int .i64 sw) ∧ wx.cell? ⟨w2.heap.size, 1, none⟩ = some (.int .i64 cnt) ∧ wx.cell? ⟨w2.heap.size, 2, none⟩ = some (.slice A L.length c)) (first | exact ⟨m0, m1, m2⟩ | exact ⟨l0, l1, l2⟩ | exact ⟨keep3 _ _ _ hne _ _ _ _ _ m0, keep3 _ _ _ hne _ _ _ _ _ m1, keep3 _ _ _ hne _ _ _ _ _ m2⟩ | go_keep)
    (first | (go_at_call 67; refine (pick_any g 201 _ _ (by exact r7) (by omega)).mono ?_; rintro e w8 ⟨u, rfl, hu, r8, t8, z8⟩; obtain ⟨⟨m0, m1, m2⟩, -, -, -, -⟩ := blk3 ((t8.block _ (by rw [z7]; exact kz) (.inr (by omega))).trans ((t7.block _ (by exact kz) (.inr (by omega))).trans (by exact HG.out))); obtain ⟨⟨n0, n1, n2⟩, p0, p1, p2, -⟩ := blk3 ((t8.block _ (by rw [z7]; exact zz) (.inl (by omega))).trans ((t7.block _ (by exact zz) (.inl (by omega))).trans (by exact HZ.out)))) | (go_at_call 67; refine (pick_any g 200 _ _ (by exact r3) (by omega)).mono ?_; rintro e w7 ⟨x, rfl, hx, r7, t7, z7⟩; obtain ⟨⟨l0, l1, l2⟩, -, -, -, -⟩ := blk3 ((t7.block _ (by exact kz) (.inr (by omega))).trans (by exact HG.out))))
  have hz8 := (t8.block w.heap.size (by rw [z7]; exact zz) (.inl (by omega))).trans ((t7.block _ (by exact zz) (.inl (by omega))).trans (by exact HZ.out))
  have o7 := Own.turned (by exact HO.out) t7 (by rw [World.size_drew, s3]; omega) (.inr (by omega))
  have o8 := o7.turned t8 (by rw [z7, World.size_drew, s3]; omega) (.inr (by omega))
  have bb7 := below_turned HB.out.drew t7 (by omega) (by rw [World.size_drew, s3]; omega)
  have bb8 := below_turned bb7 t8 (by omega) bb7.size
  have s8 : w8.heap.size = w2.heap.size + 1 := by rw [z8, z7, World.size_drew, s3]
  have HT := Lib.hid (set3 hz8 (.int .i64 sw) (.int .i64 cnt) (.slice A L.length c))
  have HBF := Lib.hid (below_turned bb8 HT.out.2.1 (Nat.le_refl _) bb8.size)
  have HOF := Lib.hid ((o8.turned HT.out.2.1 (by omega) (.inr (by omega))).wide (lo' := w.heap.size) (hi' := w8.heap.size) (by omega) (by omega))
  have hw : IntKind.i64.wrap ((L.length : Int) + 1) = (L.length : Int) + 1 := by rw [IntKind.wrap_i64]; omega
  have hu2 : 0 ≤ u.tdiv 19 ∧ u.tdiv 19 ≤ 1 := by
    obtain ⟨q0, q1, q2⟩ := hu
    have := q1 (by omega)
    rw [Int.tdiv_eq_ediv_of_nonneg q0]; omega
  have hx2 : 0 ≤ x ∧ x < 6 := by
    rw [hw] at hx
    obtain ⟨q0, q1, q2⟩ := hx
    have := q1 (by omega)
    omega
  have hxx : -1 ≤ IntKind.i64.wrap (x - IntKind.i64.wrap (u.tdiv 19)) ∧ IntKind.i64.wrap (x - IntKind.i64.wrap (u.tdiv 19)) ≤ 5 := by
    generalize u.tdiv 19 = t at *
    rw [IntKind.wrap_i64, IntKind.wrap_i64]; omega
  have HXX := Lib.hid hxx
  clear hxx hx2 hu2 hw bb7 bb8 o7 o8 hz8 t7 t8 m0 m1 m2 l0 l1 l2 n0 n1 n2 p0 p1 p2 hu hx r7 r8 z7 z8 k0 k1 k2 HG HZ
  go_wp2
  obtain ⟨⟨j0, j1, j2⟩, -, -, -, -⟩ := blk3 HT.out.1
  refine bodyPost_ret (v := .tuple #[.agg #[.int .i64 sw, .int .i64 cnt, .slice A L.length c], .int .i64 (IntKind.i64.wrap (x - IntKind.i64.wrap (u.tdiv 19)))]) (by simp [results, Try.results56, go_sem, j0, j1, j2]) rfl ?_
  exact ⟨⟨_, _, _, _, L, _, rfl, hcn, hL, HXX.out, HOF.out.wide (Nat.le_refl _) (Nat.le_of_eq HT.out.2.2.symm)⟩, HBF.out⟩
end Go.Proofs.Ytnpfjpihcdlmhaa
