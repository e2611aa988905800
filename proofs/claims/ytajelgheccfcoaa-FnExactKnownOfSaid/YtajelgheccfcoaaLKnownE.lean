/- The walk of the law on the exactness of KnownOf. -/
import Derived.Test.YtajelgheccfcoaaKnownI
import Derived.Test.YtajelgheccfcoaaKnownS
import Derived.Test.YtajelgheccfcoaaExY
namespace Go.Proofs.Ytajelgheccfcoaa
open Go.RowKit

set_option maxHeartbeats 3200000 in
set_option maxRecDepth 100000 in
theorem walk_FnExactKnownOf (a0 : Int) (v1 : Value) (w : World) (_w0 : (Lit.int .i64 a0).wf = true) (w1 : ArgSayings w v1) :
    Calls Try.prog 6 #[.int .i64 a0, v1] w fun e w' => e = .returned (.bool true) ∧ Below w.heap.size w w' := by
  obtain ⟨ps, hR, hm⟩ := w1
  have HM := Lib.hid hm
  have HR := Lib.hid hR
  obtain ⟨A, c, rfl, -, -, -⟩ := hR
  clear _w0 hm
  go_enter Try.func6, Try.ntmps6
  go_wp2_with fail
  with_reducible refine (szSayingS_any _ ps _ HR.out HM.out).mono ?_
  rintro e w2 ⟨⟨lf, rfl, hL0, hL1, hbr⟩, b2⟩
  have hR2 := HR.out.below b2 (Nat.le_refl _)
  have HB2 := Lib.hid b2
  clear b2
  by_cases hn : lf < 0
  · go_wp2
    go_ret
    exact ⟨rfl, HB2.out⟩
  · obtain ⟨hlen, hbf⟩ := hbr (by omega)
    have HBF := Lib.hid (brief_of hbf)
    clear hbf hbr
    obtain ⟨L, hL⟩ : ∃ L, L = knownI a0 (waysN a0 ps) := ⟨_, rfl⟩
    have hLL : L.length ≤ 40 := by rw [hL]; exact length_knownI a0 ps
    have H1 : Hid (∀ (W : World) (u : Value), RdS W u ps → Calls Try.prog 25 #[.int .i64 a0, u] W fun e w' => ∃ v', e = .returned v' ∧ Own w' W.heap.size w'.heap.size v' L ∧ Below W.heap.size W w') := fun W u h => by
      rw [hL]; exact specKnownOf_any a0 u ps W HBF.out h
    have H2 : Hid (∀ (W : World) (u : Value), RdS W u ps → Calls Try.prog 26 #[.int .i64 a0, u] W fun e w' => ∃ v', e = .returned v' ∧ Own w' W.heap.size w'.heap.size v' L ∧ Below W.heap.size W w') := fun W u h => by
      rw [hL]; exact implKnownOf_any a0 u ps W HBF.out h
    clear hL
    have HR2 := Lib.hid hR2
    clear hR2
    go_wp2_with fail
    with_reducible refine (toSayingS_any _ ps _ HR2.out hlen).mono ?_
    rintro e w3 ⟨u3, rfl, o3, b3⟩
    have HO3 := Lib.hid o3.rd
    have HB3 := Lib.hid (HB2.out.trans (b3.mono HB2.out.size))
    clear o3 b3
    go_wp2_with fail
    with_reducible refine (H1.out _ _ HO3.out).mono ?_
    rintro e w4 ⟨x0, rfl, o4, b4⟩
    have s3 := HB3.out.size
    have s4 := b4.size
    have HO4 := Lib.hid o4
    have HB4 := Lib.hid (HB3.out.trans (b4.mono HB3.out.size))
    clear b4 o4
    have HR4 := Lib.hid (HR.out.below HB4.out (Nat.le_refl _))
    go_wp2_with fail
    with_reducible refine (toSayingS_any _ ps _ HR4.out hlen).mono ?_
    rintro e w5 ⟨u5, rfl, o5, b5⟩
    have HO5 := Lib.hid o5
    have HB5 := Lib.hid (HB4.out.trans (b5.mono HB4.out.size))
    have HO45 := Lib.hid (HO4.out.below b5 (Nat.le_refl _))
    have s5 := b5.size
    clear o5 b5
    go_wp2_with fail
    with_reducible refine (H2.out _ _ HO5.out.rd).mono ?_
    rintro e w6 ⟨x1, rfl, o6, b6⟩
    have s6 := b6.size
    have HX6 := Lib.hid (HO5.out.below b6 (Nat.le_refl _))
    have st : ExY w (.slice A ps.length c) x0 x1 ps L L w3.heap.size w4.heap.size w4.heap.size w5.heap.size w5.heap.size w6.heap.size w6 :=
      ⟨HB5.out.trans (b6.mono HB5.out.size), HR.out, HO45.out.below b6 (by omega), o6, by omega, by omega, by omega, by omega, by omega, by omega, by omega⟩
    have r0 := st.o0.rd
    have r1 := st.o1.rd
    have ST := Lib.hid st
    clear st o6 b6
    go_wp2_with fail
    with_reducible refine (eqIntS_true _ _ L _ r1 r0).mono ?_
    rintro e w7 ⟨rfl, n7, rfl⟩
    have ST7 := Lib.hid (ST.out.drewN n7)
    have HX7 : Hid (OwnS (w6.drewN n7) w4.heap.size w5.heap.size u5 ps) := HX6.out.keep fun _ _ _ => rfl
    clear ST HX6 r0 r1
    have HR7 := Lib.hid ST7.out.rd
    go_wp2_with fail
    with_reducible refine (toSayingS_any _ ps _ HR7.out hlen).mono ?_
    rintro e w8 ⟨u8, rfl, o8, b8⟩
    have ST8 := Lib.hid (ST7.out.below b8)
    have HX8 := Lib.hid (HX7.out.below b8 (by have := ST7.out.a6; have := ST7.out.a4; have := ST7.out.a5; omega))
    have HO8 := Lib.hid o8.rd
    clear ST7 HX7 HR7 o8 b8
    go_wp2_with fail
    with_reducible refine (eqSayingS_true _ _ ps _ HX8.out.rd HO8.out).mono ?_
    rintro e w9 ⟨rfl, b9⟩
    have ST9 := Lib.hid (ST8.out.below b9)
    have HX9 := Lib.hid (HX8.out.below b9 (by have := ST8.out.a6; have := ST8.out.a4; have := ST8.out.a5; omega))
    clear ST8 HX8 HO8 b9
    go_wp2_with fail
    with_reducible refine (markSayingS_any _ _ _ ps 1 _ HX9.out (by omega) (by omega)).mono ?_
    rintro e w10 ⟨rfl, t10⟩
    have ST10 := Lib.hid (ST9.out.turnX t10)
    clear ST9 HX9 t10
    have r0 := ST10.out.o0.rd
    have r1 := ST10.out.o1.rd
    have hk : ¬ (1 : Int) + 2 * ps.length < 0 := by omega
    go_wp2_with fail
    with_reducible refine (eqIntS_true _ _ L _ r1 r0).mono ?_
    rintro e w11 ⟨rfl, n11, rfl⟩
    have ST11 := Lib.hid (ST10.out.drewN n11)
    clear ST10 r0 r1
    go_wp2_with fail
    with_reducible refine (markIntS_any _ _ _ L 1 _ ST11.out.o1 (by omega) (by omega)).mono ?_
    rintro e w12 ⟨rfl, o12, t12, -⟩
    have ST12 := Lib.hid (ST11.out.turn1 o12 t12)
    clear ST11 o12 t12
    have r1 := ST12.out.o1.rd
    go_wp2_with fail
    with_reducible refine (heldIntS_up _ L.length 1 _ r1 (by omega) (by omega)).mono ?_
    rintro e w13 ⟨rfl, rfl⟩
    have HR13 := Lib.hid ST12.out.rd
    clear r1
    go_wp2_with fail
    with_reducible refine (toSayingS_any _ ps _ HR13.out hlen).mono ?_
    rintro e w14 ⟨u14, rfl, o14, b14⟩
    have ST14 := Lib.hid (ST12.out.below b14)
    have HO14 := Lib.hid o14.rd
    clear ST12 b14 o14
    go_wp2_with fail
    with_reducible refine (H2.out _ _ HO14.out).mono ?_
    rintro e w15 ⟨x15, rfl, o15, b15⟩
    have ST15 := Lib.hid (ST14.out.below b15)
    have r0 := ST15.out.o0.rd
    have r3 := o15.rd
    clear ST14 HO14 b15 o15
    go_wp2_with fail
    with_reducible refine (eqIntS_true _ _ L _ r3 r0).mono ?_
    rintro e w16 ⟨rfl, n16, rfl⟩
    have ST16 := Lib.hid (ST15.out.drewN n16)
    clear ST15 r0 r3
    have r1 := ST16.out.o1.rd
    go_wp2_with fail
    with_reducible refine (heldIntS_up _ L.length 1 _ r1 (by omega) (by omega)).mono ?_
    rintro e w17 ⟨rfl, rfl⟩
    have HF := Lib.hid ST16.out.bel
    clear r1 ST16
    go_wp2
    go_ret
    exact ⟨rfl, HF.out⟩
end Go.Proofs.Ytajelgheccfcoaa
