/- The walk of the law on the exactness of AfterVisit. -/
import Derived.Test.YtnpfjpihcdlmhaaImpAv
import Derived.Test.YtnpfjpihcdlmhaaArg
import Derived.Deep.RegionHeld3
namespace Go.Proofs.Ytnpfjpihcdlmhaa
open Go.RowKit

/-- arg: what came in; room x (block qx, slice vx): its copy; room 0 (block q0, slice v0): the reference's; room 1 (block q1, slice v1): the program's. -/
structure AvT (w : World) (arg vx v0 v1 : Value) (zs L X L1 : List Int) (s c sw cnt : Int) (l0 h0 q0 lx hx qx l1 h1 q1 : Nat) (W : World) : Prop where
  bel : Below w.heap.size w W
  rarg : Rd w arg zs
  ka : W.heap[w.heap.size]? = some (.cells #[.int .i64 s, .int .i64 c, arg] 36 (0, 0))
  kx : W.heap[qx]? = some (.cells #[.int .i64 s, .int .i64 c, vx] 30 (0, 0))
  ox : Own W lx hx vx X
  k0 : W.heap[q0]? = some (.cells #[.int .i64 sw, .int .i64 cnt, v0] 30 (0, 0))
  o0 : Own W l0 h0 v0 L
  k1 : W.heap[q1]? = some (.cells #[.int .i64 sw, .int .i64 cnt, v1] 30 (0, 0))
  o1 : Own W l1 h1 v1 L1
  a0 : w.heap.size < l0
  a1 : h0 ≤ q0
  a2 : q0 < lx
  a3 : hx ≤ qx
  a4 : qx < l1
  a5 : h1 ≤ q1
  a6 : q1 < W.heap.size
  a7 : q0 < qx
  a8 : qx < q1
  a9 : w.heap.size < lx ∧ w.heap.size < l1 ∧ w.heap.size < qx

section
variable {w W W' : World} {arg vx v0 v1 : Value} {zs L X L1 : List Int} {s c sw cnt : Int} {l0 h0 q0 lx hx qx l1 h1 q1 : Nat}
theorem AvT.below (t : AvT w arg vx v0 v1 zs L X L1 s c sw cnt l0 h0 q0 lx hx qx l1 h1 q1 W) {B : Nat} (hb : Below B W W') (hB : B = W.heap.size) : AvT w arg vx v0 v1 zs L X L1 s c sw cnt l0 h0 q0 lx hx qx l1 h1 q1 W' := by
  subst hB
  obtain ⟨bel, rarg, ka, kx, ox, k0, o0, k1, o1, a0, a1, a2, a3, a4, a5, a6, a7, a8, a9⟩ := t
  exact ⟨bel.trans (hb.mono bel.size), rarg, (hb.block _ (by omega)).trans ka, (hb.block _ (by omega)).trans kx, ox.below hb (by omega), (hb.block _ (by omega)).trans k0, o0.below hb (by omega), (hb.block _ (by omega)).trans k1, o1.below hb (by omega), a0, a1, a2, a3, a4, a5, Nat.lt_of_lt_of_le a6 hb.size, a7, a8, a9⟩
theorem AvT.alloc (t : AvT w arg vx v0 v1 zs L X L1 s c sw cnt l0 h0 q0 lx hx qx l1 h1 q1 W) (o : Obj) : AvT w arg vx v0 v1 zs L X L1 s c sw cnt l0 h0 q0 lx hx qx l1 h1 q1 (W.alloc o) := t.below ((Below.refl _ _).alloc (Nat.le_refl _) o) rfl
theorem AvT.turnX {X' : List Int} (t : AvT w arg vx v0 v1 zs L X L1 s c sw cnt l0 h0 q0 lx hx qx l1 h1 q1 W) (ho : Own W' lx hx vx X') (ht : Turned lx hx W W') : AvT w arg vx v0 v1 zs L X' L1 s c sw cnt l0 h0 q0 lx hx qx l1 h1 q1 W' := by
  obtain ⟨bel, rarg, ka, kx, ox, k0, o0, k1, o1, a0, a1, a2, a3, a4, a5, a6, a7, a8, a9⟩ := t
  exact ⟨below_turned bel ht (by omega) bel.size, rarg, (ht.block _ (by omega) (by omega)).trans ka, (ht.block _ (by omega) (by omega)).trans kx, ho, (ht.block _ (by omega) (by omega)).trans k0, o0.turned ht (by omega) (by omega), (ht.block _ a6 (by omega)).trans k1, o1.turned ht (by omega) (by omega), a0, a1, a2, a3, a4, a5, Nat.lt_of_lt_of_le a6 ht.size, a7, a8, a9⟩
theorem AvT.turn1 {L' : List Int} (t : AvT w arg vx v0 v1 zs L X L1 s c sw cnt l0 h0 q0 lx hx qx l1 h1 q1 W) (ho : Own W' l1 h1 v1 L') (ht : Turned l1 h1 W W') : AvT w arg vx v0 v1 zs L X L' s c sw cnt l0 h0 q0 lx hx qx l1 h1 q1 W' := by
  obtain ⟨bel, rarg, ka, kx, ox, k0, o0, k1, o1, a0, a1, a2, a3, a4, a5, a6, a7, a8, a9⟩ := t
  exact ⟨below_turned bel ht (by omega) bel.size, rarg, (ht.block _ (by omega) (by omega)).trans ka, (ht.block _ (by omega) (by omega)).trans kx, ox.turned ht (by omega) (by omega), (ht.block _ (by omega) (by omega)).trans k0, o0.turned ht (by omega) (by omega), (ht.block _ a6 (by omega)).trans k1, ho, a0, a1, a2, a3, a4, a5, Nat.lt_of_lt_of_le a6 ht.size, a7, a8, a9⟩
theorem AvT.rd (t : AvT w arg vx v0 v1 zs L X L1 s c sw cnt l0 h0 q0 lx hx qx l1 h1 q1 W) : Rd W arg zs := t.rarg.below t.bel
end

theorem avDone_len {sw cnt q : Int} {zs : List Int} (h : zs.length ≤ 1048576) : (avDone sw cnt zs q).length ≤ 1048576 := by
  unfold avDone
  split
  · rw [length_vDone]; exact h
  · simp

set_option maxHeartbeats 1600000 in
set_option maxRecDepth 100000 in
theorem walk_FnExactAfterVisit (v0 : Value) (a1 : Int) (w : World) (w0 : ArgRoom w v0) (_w1 : (Lit.int .i64 a1).wf = true) :
    Calls Try.prog 10 #[v0, .int .i64 a1] w fun e w' => e = .returned (.bool true) ∧ Below w.heap.size w w' := by
  obtain ⟨s, cc, a, len, cap, z, rfl, ws, wc, wr⟩ := w0
  obtain ⟨hR, hl, hz⟩ := rd_of_row wr
  have hc := bd_i64 wc
  generalize z.take len = zs at *
  have HL := Lib.hid hl; clear hl ws wc hz _w1
  have hbox : ∀ o : Obj, Below w.heap.size w (w.alloc o) := fun o => (Below.refl _ _).alloc (Nat.le_refl _) o
  have HBX := Lib.hid hbox; clear hbox
  obtain ⟨W, hW⟩ : ∃ W : World, W = w.alloc (.cells #[.int .i64 s, .int .i64 cc, .slice a len cap] 36) := ⟨_, rfl⟩
  have hb : Below w.heap.size w W := by rw [hW]; exact HBX.out _
  have hRW := hR.below hb
  have hsW : W.heap.size = w.heap.size + 1 := by rw [hW]; simp
  have hblk : W.heap[w.heap.size]? = some (.cells #[.int .i64 s, .int .i64 cc, .slice a len cap] 36 (0, 0)) := by rw [hW]; exact heap_alloc_new _ _
  obtain ⟨⟨k0, k1, k2⟩, -, -, -, kz⟩ := blk3 hblk
  have HW := Lib.hid hW; have HSW := Lib.hid hsW; have HK := Lib.hid hblk
  clear hW hsW hblk
  have hcap : len ≤ 9223372036854775807 := by obtain ⟨_, _, _, q1, q2, _⟩ := hRW; have := HL.out; omega
  go_enter Try.func10, Try.ntmps10
  go_wp2_with fail
  rw [← HW.out]
  refine (szRoom_any s cc a len cap W hcap).mono ?_
  rintro e w1 ⟨⟨l, rfl, hl⟩, b1⟩
  by_cases hlen : 1048576 < len
  · have hl0 : l < 0 := hl.2 hlen
    have hb1 := hb.trans (b1.mono (by have := HSW.out; omega))
    clear hl b1
    go_wp2_with fail
    go_ret
    exact ⟨rfl, hb1⟩
  · have hl0 : ¬ l < 0 := fun h => hlen (hl.1 h)
    have hb1 := hb.trans (b1.mono (by have := HSW.out; omega))
    have s1 := b1.size
    have hR1 := hRW.below b1
    have hblk1 := (b1.block _ kz).trans HK.out
    have hsw := HSW.out
    clear k0 k1 k2 hl b1 hRW HK
    obtain ⟨⟨k0, k1, k2⟩, -, -, -, kz1⟩ := blk3 hblk1
    have HK := Lib.hid hblk1; clear hblk1
    have hz2 : zs.length ≤ 1048576 := by have := HL.out; omega
    have hz : zs.length ≤ 35184372088832 := by omega
    obtain ⟨sw, hsw2⟩ : ∃ x, x = avSw s cc zs a1 := ⟨_, rfl⟩
    obtain ⟨cnt, hcnt⟩ : ∃ x, x = avCnt s cc zs a1 := ⟨_, rfl⟩
    obtain ⟨L, hLd⟩ : ∃ x, x = avDone s cc zs a1 := ⟨_, rfl⟩
    have hL : L.length ≤ 1048576 := by rw [hLd]; exact avDone_len hz2
    have H1 : Hid (∀ (W : World) (u : Value), Rd W u zs → Calls Try.prog 42 #[.agg #[.int .i64 s, .int .i64 cc, u], .int .i64 a1] W fun e w' => (∃ A n c, e = .returned (.agg #[.int .i64 sw, .int .i64 cnt, .slice A n c]) ∧ Own w' W.heap.size w'.heap.size (.slice A n c) L) ∧ Below W.heap.size W w') := fun W u h => by
      have := specAfterVisit_any s cc u zs a1 W h hc hz2
      rw [← hsw2, ← hcnt, ← hLd] at this; exact this
    have H2 : Hid (∀ (W : World) (u : Value), Rd W u zs → Calls Try.prog 43 #[.agg #[.int .i64 s, .int .i64 cc, u], .int .i64 a1] W fun e w' => (∃ A n c, e = .returned (.agg #[.int .i64 sw, .int .i64 cnt, .slice A n c]) ∧ Own w' W.heap.size w'.heap.size (.slice A n c) L) ∧ Below W.heap.size W w') := fun W u h => by
      have := implAfterVisit_any s cc u zs a1 W h
      rw [← hsw2, ← hcnt, ← hLd] at this; exact this
    clear hsw2 hcnt hLd hc HSW HW HBX
    go_wp2_with fail
    refine (toRoom_any _ _ _ zs _ hR1 hz).mono ?_
    rintro e w2 ⟨⟨A2, n2, c2, rfl, o2⟩, b2⟩
    have s2 := b2.size
    have hb2 := hb1.trans (b2.mono (by omega))
    have hR2 := hR1.below b2
    have hblk2 := (b2.block _ kz1).trans HK.out
    clear k0 k1 k2 b2 hR1 HK hb1
    obtain ⟨⟨k0, k1, k2⟩, -, -, -, kz2⟩ := blk3 hblk2
    have HK := Lib.hid hblk2; clear hblk2
    go_wp2_with fail
    refine (H1.out _ _ o2.rd).mono ?_
    rintro e w3 ⟨⟨A0, n0, c0, rfl, o3⟩, b3⟩
    have s3 := b3.size
    have ba := (Below.refl w3.heap.size w3).alloc (Nat.le_refl _) (.cells #[.int .i64 sw, .int .i64 cnt, .slice A0 n0 c0] 30)
    have hb3 := (hb2.trans (b3.mono (by omega))).trans (ba.mono (by omega))
    have hR3 := (hR2.below b3).below ba
    have hblk3p := (b3.block _ kz2).trans HK.out
    have hblk3 := (ba.block _ (by omega)).trans hblk3p
    have g3 := heap_alloc_new w3 (.cells #[.int .i64 sw, .int .i64 cnt, .slice A0 n0 c0] 30)
    have o3b := o3.below ba (Nat.le_refl _)
    clear k0 k1 k2 b3 hR2 HK hb2 o2 o3
    obtain ⟨w4, hw4⟩ : ∃ w4 : World, w4 = w3.alloc (.cells #[.int .i64 sw, .int .i64 cnt, .slice A0 n0 c0] 30) := ⟨_, rfl⟩
    have s4 : w4.heap.size = w3.heap.size + 1 := by rw [hw4]; simp
    rw [← hw4] at hb3 hR3 hblk3 g3 o3b
    have kz3 := (blk3 hblk3).2.2.2.2
    obtain ⟨⟨k0, k1, k2⟩, -, -, -, kz3p⟩ := blk3 hblk3p
    have HK := Lib.hid hblk3; have HG := Lib.hid g3; have HW4 := Lib.hid hw4
    clear hblk3 g3 hw4 ba hblk3p
    go_wp2_with fail
    rw [← HW4.out]
    refine (toRoom_any _ _ _ zs _ hR3 hz).mono ?_
    rintro e w5 ⟨⟨Ax, nx, cx, rfl, o5⟩, b5⟩
    have s5 := b5.size
    have ba := (Below.refl w5.heap.size w5).alloc (Nat.le_refl _) (.cells #[.int .i64 s, .int .i64 cc, .slice Ax nx cx] 30)
    have hb5 := (hb3.trans (b5.mono (by omega))).trans (ba.mono (by omega))
    have hblk5 := (ba.block _ (by omega)).trans ((b5.block _ kz3).trans HK.out)
    have g5 := (ba.block _ (by omega)).trans ((b5.block _ (by omega)).trans HG.out)
    have x5 := heap_alloc_new w5 (.cells #[.int .i64 s, .int .i64 cc, .slice Ax nx cx] 30)
    have o5b := o5.below ba (Nat.le_refl _)
    have o35 := (o3b.below b5 (by omega)).below ba (by omega)
    clear k0 k1 k2 kz3p b5 hR3 HK HG hb3 o3b o5 HW4
    obtain ⟨w6, hw6⟩ : ∃ w6 : World, w6 = w5.alloc (.cells #[.int .i64 s, .int .i64 cc, .slice Ax nx cx] 30) := ⟨_, rfl⟩
    have s6 : w6.heap.size = w5.heap.size + 1 := by rw [hw6]; simp
    rw [← hw6] at hb5 hblk5 g5 x5 o5b o35
    have HK := Lib.hid hblk5; have HG := Lib.hid g5; have HX := Lib.hid x5; have HW6 := Lib.hid hw6
    clear hblk5 g5 x5 hw6 ba
    go_wp2_with fail
    rw [← HW6.out]
    refine (H2.out _ _ o5b.rd).mono ?_
    rintro e w7 ⟨⟨A1, n1, c1, rfl, o7⟩, b7⟩
    have s7 := b7.size
    have st : AvT w (.slice a len cap) (.slice Ax nx cx) (.slice A0 n0 c0) (.slice A1 n1 c1) zs L zs L s cc sw cnt w2.heap.size w3.heap.size w3.heap.size w4.heap.size w5.heap.size w5.heap.size w6.heap.size w7.heap.size w7.heap.size (w7.alloc (.cells #[.int .i64 sw, .int .i64 cnt, .slice A1 n1 c1] 30)) := by
      have ba := (Below.refl w7.heap.size w7).alloc (Nat.le_refl _) (.cells #[.int .i64 sw, .int .i64 cnt, .slice A1 n1 c1] 30)
      exact ⟨(hb5.trans (b7.mono (by omega))).trans (ba.mono (by omega)), hR, (ba.block _ (by omega)).trans ((b7.block _ (by omega)).trans HK.out), (ba.block _ (by omega)).trans ((b7.block _ (by omega)).trans HX.out), (o5b.below b7 (by omega)).below ba (by omega),
        (ba.block _ (by omega)).trans ((b7.block _ (by omega)).trans HG.out), (o35.below b7 (by omega)).below ba (by omega), heap_alloc_new _ _, o7.below ba (Nat.le_refl _), by omega, by omega, by omega, by omega, by omega, by omega, by simp, by omega, by omega, by omega, by omega, by omega⟩
    obtain ⟨⟨k0, k1, k2⟩, -, -, -, kz7⟩ := blk3 ((b7.block _ (by omega)).trans HG.out)
    have ST := Lib.hid st
    have r1 := st.o1.rd
    have r0 := st.o0.rd
    clear st b7 hb5 o5b o35 HK HG HX HW6 o7 hb s1 s2 s3 s4 s5 s6 s7 kz kz1 kz2 kz3
    go_wp2_with fail
    refine (eqRoom_true _ _ _ _ L _ r1 r0).mono ?_
    rintro e w8 ⟨rfl, b8⟩
    have st := ST.out.below b8 rfl
    clear ST b8 r1 r0 k0 k1 k2 kz7
    obtain ⟨⟨k0, k1, k2⟩, -, -, -, kz⟩ := blk3 st.ka
    obtain ⟨⟨j0, j1, j2⟩, -, -, -, jz⟩ := blk3 st.kx
    have HK := Lib.hid st.ka; have HG := Lib.hid st.kx
    have hR8 := st.rd
    have o8 := st.ox.rd
    have ST := Lib.hid st
    clear st
    go_wp2_with fail
    go_region_held3 (fun w' => w'.cell? ⟨w5.heap.size, 0, none⟩ = some (.int .i64 s) ∧ w'.cell? ⟨w5.heap.size, 1, none⟩ = some (.int .i64 cc) ∧ w'.cell? ⟨w5.heap.size, 2, none⟩ = some (.slice Ax nx cx) ∧ w'.cell? ⟨w.heap.size, 0, none⟩ = some (.int .i64 s) ∧ w'.cell? ⟨w.heap.size, 1, none⟩ = some (.int .i64 cc) ∧ w'.cell? ⟨w.heap.size, 2, none⟩ = some (.slice a len cap)) (first | exact ⟨(b10.cell qz).trans q0, (b10.cell qz).trans q1, (b10.cell qz).trans q2, (b10.cell pz).trans p0, (b10.cell pz).trans p1, (b10.cell pz).trans p2⟩ | exact ⟨q0, q1, q2, p0, p1, p2⟩ | go_keep)
      (first | (go_at_call 36; refine (toRoom_any _ _ _ zs _ (by exact hR8) hz).mono ?_; rintro e w9 ⟨⟨A9, n9, c9, rfl, o9⟩, b9⟩; obtain ⟨⟨q0, q1, q2⟩, -, -, -, qz⟩ := blk3 ((b9.block _ (by exact jz)).trans (by exact HG.out)); obtain ⟨⟨p0, p1, p2⟩, -, -, -, pz⟩ := blk3 ((b9.block _ (by exact kz)).trans (by exact HK.out))) | (go_at_call 29; refine (eqRoom_true _ _ _ _ zs _ (Rd.below (by exact o8) b9) o9.rd).mono ?_; rintro e w10 ⟨rfl, b10⟩))
    have bd : Below w8.heap.size w8 w8.drew := (Below.refl _ _).drew
    have st := ((ST.out.below bd rfl).below b9 rfl).below b10 rfl
    clear ST b9 b10 bd k0 k1 k2 j0 j1 j2 kz jz HK HG hR8 o8 o9 q0 q1 q2 p0 p1 p2 qz pz
    obtain ⟨⟨k0, k1, k2⟩, -, -, -, -⟩ := blk3 st.kx
    have o10 := st.ox
    have q3 := st.a3
    have q4 : w5.heap.size < w10.heap.size := by have := st.a8; have := st.a6; omega
    have ST := Lib.hid st
    clear st
    go_wp2_with fail
    refine (markRoom_any _ _ _ _ _ zs 1 _ o10 (by omega) (by omega) (by omega)).mono ?_
    rintro e w11 ⟨rfl, o11, t11⟩
    have st := ST.out.turnX o11 t11
    clear ST o10 o11 t11 k0 k1 k2 q3 q4
    obtain ⟨⟨i0, i1, i2⟩, -, -, -, -⟩ := blk3 st.k0
    obtain ⟨⟨j0, j1, j2⟩, -, -, -, -⟩ := blk3 st.k1
    have r1 := st.o1.rd
    have r0 := st.o0.rd
    have ST := Lib.hid st
    clear st
    go_wp2_with fail
    refine (eqRoom_true _ _ _ _ L _ r1 r0).mono ?_
    rintro e w12 ⟨rfl, b12⟩
    have st := ST.out.below b12 rfl
    clear ST b12 r1 r0 i0 i1 i2 j0 j1 j2
    obtain ⟨⟨j0, j1, j2⟩, -, -, -, -⟩ := blk3 st.k1
    have o12 := st.o1
    have q5 := st.a5
    have q6 := st.a6
    have ST := Lib.hid st
    clear st
    go_wp2_with fail
    refine (markRoom_any _ _ _ _ _ L 1 _ o12 (by omega) (by omega) (by omega)).mono ?_
    rintro e w13 ⟨rfl, o13, t13⟩
    have st := ST.out.turn1 o13 t13
    clear ST o12 o13 t13 j0 j1 j2 q5 q6
    obtain ⟨⟨j0, j1, j2⟩, -, -, -, -⟩ := blk3 st.k1
    have r1 := st.o1.rd
    have ST := Lib.hid st
    clear st
    go_wp2_with fail
    refine (heldRoom_up _ _ _ L.length 1 _ r1 (by omega) (by omega)).mono ?_
    rintro e w14 ⟨rfl, b14⟩
    have st := ST.out.below b14 rfl
    clear ST b14 r1 j0 j1 j2
    obtain ⟨⟨k0, k1, k2⟩, -, -, -, -⟩ := blk3 st.ka
    have hR14 := st.rd
    have ST := Lib.hid st
    clear st
    go_wp2_with fail
    refine (toRoom_any _ _ _ zs _ hR14 hz).mono ?_
    rintro e w15 ⟨⟨A15, n15, c15, rfl, o15⟩, b15⟩
    have st := ST.out.below b15 rfl
    clear ST b15 hR14 k0 k1 k2
    have ST := Lib.hid st
    clear st
    go_wp2_with fail
    refine (H2.out _ _ o15.rd).mono ?_
    rintro e w16 ⟨⟨A3, n3, c3, rfl, o16⟩, b16⟩
    have st := ST.out.below b16 rfl
    clear ST b16 o15
    obtain ⟨⟨i0, i1, i2⟩, -, -, -, iz⟩ := blk3 st.k0
    have st2 := st.alloc (.cells #[.int .i64 sw, .int .i64 cnt, .slice A3 n3 c3] 30)
    have r0 := st2.o0.rd
    have r3 := o16.rd.below ((Below.refl w16.heap.size w16).alloc (Nat.le_refl _) (.cells #[.int .i64 sw, .int .i64 cnt, .slice A3 n3 c3] 30))
    have ST := Lib.hid st2
    clear st st2 o16
    go_wp2_with fail
    refine (eqRoom_true _ _ _ _ L _ r3 r0).mono ?_
    rintro e w17 ⟨rfl, b17⟩
    have st := ST.out.below b17 rfl
    clear ST b17 r3 r0 i0 i1 i2 iz
    obtain ⟨⟨j0, j1, j2⟩, -, -, -, -⟩ := blk3 st.k1
    have r1 := st.o1.rd
    have ST := Lib.hid st
    clear st
    go_wp2_with fail
    refine (heldRoom_up _ _ _ L.length 1 _ r1 (by omega) (by omega)).mono ?_
    rintro e w18 ⟨rfl, b18⟩
    have st := ST.out.below b18 rfl
    clear ST b18 r1 j0 j1 j2
    have HF := Lib.hid st.bel
    clear st
    go_wp2
    go_ret
    exact ⟨rfl, HF.out⟩
end Go.Proofs.Ytnpfjpihcdlmhaa
