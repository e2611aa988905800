/- The walk of the law on the exactness of HitsOf. -/
import Derived.Test.YtahamfgkcnepgaaHitsSp
import Derived.Test.YtahamfgkcnepgaaLFieldsE
import Derived.Test.YtahamfgkcnepgaaLShotsE
namespace Go.Proofs.Ytahamfgkcnepgaa
open Go.RowKit

set_option maxHeartbeats 1600000 in
set_option maxRecDepth 100000 in
theorem walk_FnExactHitsOf (a0 a1 : Int) (v2 v3 : Value) (a4 : Int) (w : World) (_w0 : (Lit.int .i64 a0).wf = true) (_w1 : (Lit.int .i64 a1).wf = true) (w2 : ArgRows w v2) (w3 : ArgPlace w v3) (_w4 : (Lit.int .i64 a4).wf = true) :
    Calls Try.prog 9 #[.int .i64 a0, .int .i64 a1, v2, v3, .int .i64 a4] w fun e w' => e = .returned (.bool true) ∧ Below w.heap.size w w' := by
  obtain ⟨zss, hR, -⟩ := w2
  obtain ⟨x, y, z, rfl, wx, wy, -⟩ := w3
  have hx := bd_i64 wx
  have hy := bd_i64 wy
  obtain ⟨W, hW⟩ : ∃ W : World, W = w.alloc (.cells #[.int .i64 x, .int .i64 y, .int .i64 z] 23) := ⟨_, rfl⟩
  have hbW : Below w.heap.size w W := by rw [hW]; exact (Below.refl _ _).alloc (Nat.le_refl _) _
  have g1 : W.heap[w.heap.size]? = some (.cells #[.int .i64 x, .int .i64 y, .int .i64 z] 23 (0, 0)) := by rw [hW]; exact heap_alloc_new _ _
  obtain ⟨⟨x0, x1, x2⟩, -, -, -, xz⟩ := blk3 g1
  have hRW := hR.below hbW
  have HW := Lib.hid hW; have HB := Lib.hid hbW; have HG := Lib.hid g1
  have hsz : w.heap.size ≤ W.heap.size := hbW.size
  clear _w0 _w1 _w4 wx wy hW hbW g1
  go_enter Try.func9, Try.ntmps9
  go_wp2_with fail
  rw [← HW.out]
  refine (szIntSS_any _ zss _ hRW).mono ?_
  rintro e w1 ⟨⟨l, rfl, hl1, hl2, hl3⟩, rfl⟩
  by_cases h0 : l < 0
  · clear hl3
    go_wp2
    go_ret
    exact ⟨rfl, HB.out⟩
  · have hsz2 := hl3 (by omega)
    have hlz : zss.length ≤ 1048576 := by omega
    have HM : Hid (∀ zs ∈ zss, zs.length ≤ 1048576) := fun zs hz => by have := manyR_mem zs hz; omega
    clear hl3 hsz2
    obtain ⟨t, ht⟩ : ∃ t, t = hitsI a0 a1 zss (x, y, z) a4 := ⟨_, rfl⟩
    have H1 : Hid (∀ (W : World) (u : Value), RdR W u zss → Calls Try.prog 40 #[.int .i64 a0, .int .i64 a1, u, .agg #[.int .i64 x, .int .i64 y, .int .i64 z], .int .i64 a4] W fun e w' => e = .returned (.int .i64 t) ∧ Below W.heap.size W w') := fun W u h => by
      rw [ht]; exact specHitsOf_any a0 a1 a4 u zss x y z W h hx hy
    have H2 : Hid (∀ (W : World) (u : Value), RdR W u zss → Calls Try.prog 41 #[.int .i64 a0, .int .i64 a1, u, .agg #[.int .i64 x, .int .i64 y, .int .i64 z], .int .i64 a4] W fun e w' => e = .returned (.int .i64 t) ∧ Below W.heap.size W w') := fun W u h => by
      rw [ht]; exact implHitsOf_any a0 a1 a4 u zss x y z W h
    clear ht
    go_wp2_with fail
    go_region_held3 (fun wx => wx.cell? ⟨w.heap.size, 0, none⟩ = some (.int .i64 x) ∧ wx.cell? ⟨w.heap.size, 1, none⟩ = some (.int .i64 y) ∧ wx.cell? ⟨w.heap.size, 2, none⟩ = some (.int .i64 z)) (first | exact ⟨n0, n1, n2⟩ | exact ⟨m0, m1, m2⟩ | exact ⟨l0, l1, l2⟩ | go_keep)
      (first | (go_at_call 27; refine (toIntSS_any _ zss _ (by exact hRW) hlz HM.out).mono ?_; rintro e w7 ⟨u7, us7, rfl, o7, b7⟩; obtain ⟨⟨l0, l1, l2⟩, -, -, -, lz⟩ := blk3 ((b7.block _ (by exact xz)).trans (by exact HG.out))) | (go_at_call 20; refine (toPlace_any _ _ _ _).mono ?_; rintro e w8 ⟨rfl, b8⟩; obtain ⟨⟨m0, m1, m2⟩, -, -, -, mz⟩ := blk3 ((b8.block _ lz).trans ((b7.block _ (by exact xz)).trans (by exact HG.out)))) | (go_at_call 40; refine (H1.out _ _ (RdR.below (by exact o7.rd) b8)).mono ?_; rintro e w9 ⟨rfl, b9⟩; obtain ⟨⟨n0, n1, n2⟩, -, -, -, nz⟩ := blk3 ((b9.block _ mz).trans ((b8.block _ lz).trans ((b7.block _ (by exact xz)).trans (by exact HG.out))))))
    have bb7 := (HB.out.drew).trans (b7.mono (by rw [World.size_drew]; exact hsz))
    have bb8 := bb7.trans (b8.mono bb7.size)
    have bb9 := bb8.trans (b9.mono bb8.size)
    have HB9 := Lib.hid bb9
    have hR9 : RdR w9 v2 zss := hR.below bb9
    have HG9 := Lib.hid ((b9.block _ mz).trans ((b8.block _ lz).trans ((b7.block _ (by exact xz)).trans (by exact HG.out))))
    have hs9 := bb9.size
    clear b7 b8 b9 bb7 bb8 bb9 o7 l0 l1 l2 m0 m1 m2 n0 n1 n2 x0 x1 x2 lz mz
    go_wp2_with fail
    refine (toIntSS_any _ zss _ hR9 hlz HM.out).mono ?_
    rintro e w10 ⟨u10, us10, rfl, o10, b10⟩
    have g10 := (b10.block _ nz).trans HG9.out
    obtain ⟨⟨x0, x1, x2⟩, -, -, -, xz2⟩ := blk3 g10
    have HB10 := Lib.hid (HB9.out.trans (b10.mono hs9))
    have HG10 := Lib.hid g10
    have hR10 := hR9.below b10
    clear b10 g10 hR9
    go_wp2_with fail
    refine (toPlace_any _ _ _ _).mono ?_
    rintro e w11 ⟨rfl, b11⟩
    have s10 := HB10.out.size
    have o11 := o10.below b11 (Nat.le_refl _)
    have hR11 := hR10.below b11
    have HB11 := Lib.hid (HB10.out.trans (b11.mono s10))
    clear x0 x1 x2
    go_wp2_with fail
    refine (H2.out _ _ o11.rd).mono ?_
    rintro e w12 ⟨rfl, b12⟩
    have s11 := b11.size
    have o12 := o11.below b12 s11
    have hR12 := hR11.below b12
    have HB12 := Lib.hid (HB11.out.trans (b12.mono HB11.out.size))
    clear b11 b12 o10 o11 hR10 hR11
    go_wp2_with fail
    refine (toIntSS_any _ zss _ hR12 hlz HM.out).mono ?_
    rintro e w13 ⟨u13, us13, rfl, o13, b13⟩
    have r12 := o12.rd.below b13
    have HB13 := Lib.hid (HB12.out.trans (b13.mono HB12.out.size))
    clear b13 o12 hR12
    go_wp2_with fail
    refine (eqIntSS_true _ _ zss _ r12 o13.rd).mono ?_
    rintro e w14 ⟨rfl, n, rfl⟩
    have HF := Lib.hid (below_drewN HB13.out n)
    clear r12 o13
    go_wp2
    go_ret
    exact ⟨rfl, HF.out⟩
end Go.Proofs.Ytahamfgkcnepgaa
