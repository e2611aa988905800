/- The walk of the law on Exchanged. -/
import Derived.Test.YtdpijiccolbljaaExchP
import Derived.Test.YtdpijiccolbljaaCircI
import Derived.Test.YtdpijiccolbljaaDrawsBx
import Derived.Test.YtdpijiccolbljaaAlive
namespace Go.Proofs.Ytdpijiccolbljaa
open Go.RowKit

set_option maxHeartbeats 3200000 in
set_option maxRecDepth 100000 in
theorem walk_FnExchanged (a0 : Option Addr) (len0 cap0 : Nat) (z0 : List Int) (w : World) (w0 : IsRowB .u8 w a0 len0 cap0 z0) :
    Calls Try.prog 14 #[.slice a0 len0 cap0] w fun e w' => e = .returned (.bool true) ∧ Below w.heap.size w w' := by
  by_cases hlen : 1048576 < len0
  · go_enter Try.func14, Try.ntmps14
    go_wp2
    go_ret
    exact ⟨rfl, Below.refl _ _⟩
  · go_enter Try.func14, Try.ntmps14
    go_wp2_with fail
    with_reducible refine (DrawExchanged_any _ _ _ _ _ w0).mono ?_
    rintro e w1 ⟨⟨v, zs, p, q, rfl, hl, hr⟩, b1⟩
    clear w0
    go_wp2_with fail
    with_reducible refine (implExchanged_any _ zs p q _ hr).mono ?_
    rintro e w2 ⟨v2, rfl, o2, b2⟩
    have hr2 := hr.below b2
    have bb := b1.trans (b2.mono b1.size)
    clear b1 b2 hr
    go_wp2_with fail
    with_reducible refine (specExchanged_any _ zs p q _ hr2).mono ?_
    rintro e w3 ⟨v3, rfl, o3, b3⟩
    have hr3 := hr2.below b3
    have q2 := o2.rd.below b3
    have q3 := o3.rd
    have bb := bb.trans (b3.mono bb.size)
    clear b3 hr2 o2 o3
    go_wp2_with fail
    with_reducible refine (sameInts_true _ _ _ _ q2 q3).mono ?_
    rintro e w4 ⟨rfl, n, rfl⟩
    have HB := Lib.hid (below_drewN bb n)
    have hr2 := hr3.drewN n
    have q2 := q2.drewN n
    clear bb hr3 q3
    generalize w3.drewN n = w2 at *
    rcases Bool.eq_false_or_eq_true (exchB zs p q) with hb | hb
    rotate_left
    · rw [exchI_no hb] at q2
      obtain ⟨A, c, rfl, -, -, -⟩ := q2
      clear hb
      simp only [List.length_nil]
      go_wp2_with fail
      with_reducible refine (alive_true _).mono ?_
      rintro e w' ⟨rfl, rfl⟩
      go_wp2
      go_ret
      exact ⟨rfl, HB.out⟩
    · obtain ⟨ns, a, b, rfl, rfl, rfl, hP, ha, hb2, he⟩ := exchB_out hb
      rw [he] at q2
      have hX := exch_perm hP ha hb2
      have hXl := length_exch ns a b
      have HXB := Lib.hid (perm_boxB hX)
      have HXX : Hid (exchI (iz (exch ns a b)) a b = iz ns) := by
        unfold Hid
        rw [exchI_iz hX (by rw [hXl]; exact ha) (by rw [hXl]; exact hb2), exch_exch ns a b ha hb2]
      have HC1 : Hid (circI (iz (exch ns a b)) = iz (circG (nx (exch ns a b)) (exch ns a b).length)) := circI_iz hX
      have HC2 : Hid (circI (iz ns) = iz (circG (nx ns) ns.length)) := circI_iz hP
      have HM : Hid ((a = b → many (exch ns a b) = many ns) ∧ (a ≠ b → many (exch ns a b) = many ns + 1 ∨ many (exch ns a b) + 1 = many ns)) := by
        refine ⟨fun e => ?_, fun hne => many_exch hP hne ha hb2⟩
        subst e
        rw [exch_same ns a ha]
      have hm1 := many_bd hX
      have hm2 := many_bd hP
      have h1 := hP.lo
      have hlx : (1 : Int) ≤ (exch ns a b).length := by rw [hXl]; omega
      have hc0 : (((exch ns a b).length : Int) == 0) = false := by rw [beq_eq_false_iff_ne]; omega
      obtain ⟨A2, c2, rfl, l2, m2⟩ := rdN_out q2
      have HQ := Lib.hid q2
      have HRR := Lib.hid hr2
      clear hb he hXl
      go_wp2_with fail
      with_reducible refine (implCirclesOf_any _ (iz (exch ns a b)) _ HQ.out).mono ?_
      rintro e w5 ⟨v5, rfl, o5, b5⟩
      rw [HC1.out] at o5
      have HQ5 := Lib.hid (HQ.out.below b5)
      have HR5 := Lib.hid (HRR.out.below b5)
      have HB5 := Lib.hid (HB.out.trans (b5.mono HB.out.size))
      obtain ⟨A5, c5, rfl⟩ := own_form o5
      rw [length_iz]
      clear o5 b5
      go_wp2_with fail
      with_reducible refine (implCirclesOf_any _ (iz ns) _ HR5.out).mono ?_
      rintro e w6 ⟨v6, rfl, o6, b6⟩
      rw [HC2.out] at o6
      have HQ6 := Lib.hid (HQ5.out.below b6)
      have HR6 := Lib.hid (HR5.out.below b6)
      have HB6 := Lib.hid (HB5.out.trans (b6.mono HB5.out.size))
      obtain ⟨A6, c6, rfl⟩ := own_form o6
      rw [length_iz]
      clear o6 b6
      have e1 : (circG (nx (exch ns a b)) (exch ns a b).length).length = many (exch ns a b) := rfl
      have e2 : (circG (nx ns) ns.length).length = many ns := rfl
      rw [e1, e2]
      clear e1 e2
      generalize many (exch ns a b) = M1 at *
      generalize many ns = M2 at *
      go_wp2_with fail
      with_reducible refine (implBoxesOk_any _ (iz (exch ns a b)) _ HQ6.out).mono ?_
      rintro e w' ⟨rfl, rfl⟩
      rw [HXB.out]
      go_wp2_with fail
      with_reducible refine (implExchanged_any _ (iz (exch ns a b)) _ _ _ HQ6.out).mono ?_
      rintro e w7 ⟨v7, rfl, o7, b7⟩
      rw [HXX.out] at o7
      have r7 := o7.rd
      have hr7 := HR6.out.below b7
      have HB7 := Lib.hid (HB6.out.trans (b7.mono HB6.out.size))
      clear o7 b7
      go_wp2_with fail
      with_reducible refine (sameInts_true _ _ _ _ r7 hr7).mono ?_
      rintro e w8 ⟨rfl, n8, rfl⟩
      have HB8 := Lib.hid (below_drewN HB7.out n8)
      clear r7 hr7
      by_cases hab : a = b
      · have hq : ((a : Int) == (b : Int)) = true := by rw [hab]; simp
        have hq2 : ((a : Int) != (b : Int)) = false := by rw [hab]; simp
        have hM := HM.out.1 hab
        have hz : (((M1 : Int) - M2) == 0) = true := by rw [hM]; simp
        clear hab hM
        go_wp2
        go_ret
        exact ⟨rfl, HB8.out⟩
      · have hq : ((a : Int) == (b : Int)) = false := by rw [beq_eq_false_iff_ne]; omega
        have hq2 : ((a : Int) != (b : Int)) = true := by rw [bne_iff_ne]; omega
        rcases HM.out.2 hab with hM | hM
        · have hz : (((M1 : Int) - M2) == 1) = true := by rw [hM]; simp; omega
          clear hab hM
          go_wp2
          go_ret
          exact ⟨rfl, HB8.out⟩
        · have hz : (((M1 : Int) - M2) == 1) = false := by rw [beq_eq_false_iff_ne]; omega
          have hz2 : (((M1 : Int) - M2) == -1) = true := by rw [← hM]; simp; omega
          clear hab hM
          go_wp2
          go_ret
          exact ⟨rfl, HB8.out⟩
end Go.Proofs.Ytdpijiccolbljaa
