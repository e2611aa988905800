/- The walk of the law on the exactness of FieldsOf. -/
import Derived.Test.YtahamfgkcnepgaaFields
import Derived.Test.YtahamfgkcnepgaaExR
import Derived.Test.YtahamfgkcnepgaaArg
namespace Go.Proofs.Ytahamfgkcnepgaa
open Go.RowKit

set_option maxRecDepth 100000 in
theorem toPlace_any (r c d : Int) (w : World) :
    Calls Try.prog 20 #[.agg #[.int .i64 r, .int .i64 c, .int .i64 d]] w fun e w' => e = .returned (.agg #[.int .i64 r, .int .i64 c, .int .i64 d]) ∧ Below w.heap.size w w' := by
  obtain ⟨W, hW⟩ : ∃ W : World, W = ((w.alloc (.cells #[.int .i64 r, .int .i64 c, .int .i64 d] 23)).alloc (.cells #[.int .i64 r, .int .i64 c, .int .i64 d] 26)).alloc (.cells #[.int .i64 r, .int .i64 c, .int .i64 d] 26) := ⟨_, rfl⟩
  have hb3 : Below w.heap.size w W := by
    rw [hW]; exact (((Below.refl _ _).alloc (Nat.le_refl _) _).alloc (by simp) _).alloc (by simp; omega) _
  have g1 : W.heap[w.heap.size + 1]? = some (.cells #[.int .i64 r, .int .i64 c, .int .i64 d] 26 (0, 0)) := by
    rw [hW, Below.heap_alloc _ _ _ (by simp)]; exact heap_alloc2_new _ _ _
  have HG := Lib.hid g1
  have HB := Lib.hid hb3
  have HW := Lib.hid hW
  clear hW g1 hb3
  go_enter Try.func20, Try.ntmps20
  go_wp2
  rw [← HW.out]
  obtain ⟨⟨j0, j1, j2⟩, -, -, -, -⟩ := blk3 HG.out
  refine bodyPost_ret (v := .agg #[.int .i64 r, .int .i64 c, .int .i64 d]) (by simp [results, Try.results20, go_sem, j0, j1, j2]) rfl ⟨rfl, HB.out⟩

theorem manyR_pairs (r c d : Int) : ∀ n, manyR (fieldsL r c d n) = 2 * n
  | 0 => rfl
  | n + 1 => by rw [fieldsL_succ, manyR_append, manyR_pairs r c d n]; simp [manyR]; omega
theorem manyR_fields (r c d long : Int) : manyR (fieldsI r c d long) ≤ 12 := by
  unfold fieldsI
  split
  · rename_i h
    have := (fieldsB_yes h).1
    rw [manyR_pairs]; omega
  · simp [manyR]

set_option maxHeartbeats 800000 in
set_option maxRecDepth 100000 in
theorem walk_FnExactFieldsOf (v0 : Value) (a1 : Int) (w : World) (w0 : ArgPlace w v0) (_w1 : (Lit.int .i64 a1).wf = true) :
    Calls Try.prog 3 #[v0, .int .i64 a1] w fun e w' => e = .returned (.bool true) ∧ Below w.heap.size w w' := by
  obtain ⟨r, c, d, rfl, wr, wc, wd⟩ := w0
  have hr := bd_i64 wr
  have hc := bd_i64 wc
  have hM := manyR_fields r c d a1
  have H1 := Lib.hid (fun W => specFieldsOf_any (d := d) r c a1 W hr hc)
  have H2 := Lib.hid (fun W => implFieldsOf_any (d := d) r c a1 W)
  generalize fieldsI r c d a1 = Z at *
  obtain ⟨W0, hW⟩ : ∃ W : World, W = w.alloc (.cells #[.int .i64 r, .int .i64 c, .int .i64 d] 23) := ⟨_, rfl⟩
  have hb0 : Below w.heap.size w W0 := by rw [hW]; exact (Below.refl _ _).alloc (Nat.le_refl _) _
  have hs0 : W0.heap.size = w.heap.size + 1 := by rw [hW]; simp
  have g0 : W0.heap[w.heap.size]? = some (.cells #[.int .i64 r, .int .i64 c, .int .i64 d] 23 (0, 0)) := by rw [hW]; exact heap_alloc_new _ _
  have HW := Lib.hid hW; have HG := Lib.hid g0; have HB0 := Lib.hid hb0
  obtain ⟨⟨x0, x1, x2⟩, -, -, -, xz⟩ := blk3 g0
  clear hW hb0 g0 wr wc wd hr hc _w1
  go_enter Try.func3, Try.ntmps3
  go_wp2_with fail
  rw [← HW.out]
  refine (toPlace_any r c d W0).mono ?_
  rintro e w1 ⟨rfl, b1⟩
  go_wp2_with fail
  refine (H1.out w1).mono ?_
  rintro e w2 ⟨v0, u0, rfl, o2, b2⟩
  have bb2 := b1.trans (b2.mono b1.size)
  have o2b := o2.wide b1.size (Nat.le_refl _)
  clear x0 x1 x2 b1 b2 o2
  obtain ⟨⟨x0, x1, x2⟩, -, -, -, -⟩ := blk3 ((bb2.block _ (by omega)).trans HG.out)
  go_wp2_with fail
  refine (toPlace_any r c d w2).mono ?_
  rintro e w3 ⟨rfl, b3⟩
  go_wp2_with fail
  refine (H2.out w3).mono ?_
  rintro e w4 ⟨v1, u1, rfl, o4, b4⟩
  have st : ExR W0 v0 v1 u0 u1 Z Z W0.heap.size w2.heap.size w2.heap.size w4.heap.size w4 := exR_mk bb2 o2b (b3.trans (b4.mono b3.size)) (o4.wide b3.size (Nat.le_refl _))
  have h01 : w2.heap.size ≤ w4.heap.size := Nat.le_trans b3.size b4.size
  clear b3 b4 o4 o2b bb2 x0 x1 x2
  have ST := Lib.hid st
  have r1 := st.o1.rd
  have r0 := st.o0.rd
  clear st
  go_wp2_with fail
  refine (eqIntSS_true _ _ Z _ r1 r0).mono ?_
  rintro e w5 ⟨rfl, n, rfl⟩
  have st := ST.out.below (below_drewN (Below.refl _ _) n) rfl h01
  clear ST r1 r0
  have ST := Lib.hid st
  have o5 := st.o1
  have hh5 := st.a2
  have h01b : w2.heap.size ≤ (w4.drewN n).heap.size := h01
  clear st
  go_wp2_with fail
  refine (markIntSS_any _ _ _ _ Z 1 _ o5 hh5 (by omega) (by omega)).mono ?_
  rintro e w6 ⟨rfl, o6, t6, -⟩
  have st := ST.out.turn1 o6 t6 h01b
  have h01c : w2.heap.size ≤ w6.heap.size := Nat.le_trans h01b t6.size
  clear ST o5 o6 t6 hh5 h01 h01b
  have ST := Lib.hid st
  have r1 := st.o1.rd
  have xb := (st.bel.block _ (by omega)).trans HG.out
  clear st
  go_wp2_with fail
  refine (heldIntSS_up _ Z 1 _ r1 (by omega) (by omega)).mono ?_
  rintro e w7 ⟨rfl, rfl⟩
  obtain ⟨⟨x0, x1, x2⟩, -, -, -, -⟩ := blk3 xb
  clear xb r1
  go_wp2_with fail
  refine (toPlace_any r c d w7).mono ?_
  rintro e w8 ⟨rfl, b8⟩
  go_wp2_with fail
  refine (H2.out w8).mono ?_
  rintro e w9 ⟨v9, u9, rfl, o9, b9⟩
  have st := ST.out.below (b8.trans (b9.mono b8.size)) rfl h01c
  have h01d : w2.heap.size ≤ w9.heap.size := Nat.le_trans h01c (Nat.le_trans b8.size b9.size)
  clear ST b8 b9 h01c x0 x1 x2
  have ST := Lib.hid st
  have r0 := st.o0.rd
  clear st
  go_wp2_with fail
  refine (eqIntSS_true _ _ Z _ o9.rd r0).mono ?_
  rintro e w10 ⟨rfl, m, rfl⟩
  have st := ST.out.below (below_drewN (Below.refl _ _) m) rfl h01d
  clear ST r0 o9 h01d
  have ST := Lib.hid st
  have r1 := st.o1.rd
  clear st
  go_wp2_with fail
  refine (heldIntSS_up _ Z 1 _ r1 (by omega) (by omega)).mono ?_
  rintro e w11 ⟨rfl, rfl⟩
  have HF : Hid (Below w.heap.size w (w9.drewN m)) := HB0.out.trans (ST.out.bel.mono (by omega))
  clear ST r1
  go_wp2
  go_ret
  exact ⟨rfl, HF.out⟩
end Go.Proofs.Ytahamfgkcnepgaa
