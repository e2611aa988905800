/- The walk of the law on PaidFor. -/
import Derived.Test.YtcgpfdknadijlaaCoG
import Derived.Test.YtcgpfdknadijlaaCoK
import Derived.Test.YtcgpfdknadijlaaCoV
import Derived.Test.YtcgpfdknadijlaaAlive
namespace Go.Proofs.Ytcgpfdknadijlaa
open Go.RowKit

theorem paidI_cases (zs : List Int) (l : List UInt8) (x : Int) : paidI zs l x = -1 ∨ (0 ≤ paidI zs l x ∧ paidI zs l x ≤ needI zs l ∧ needI zs l ≤ 9223372036854775807) := by
  unfold paidI needI
  by_cases h : priceB zs = true
  · have hp := (priceB_yes h).2
    cases hx : inB 0 ((zs.length : Int) - 1) x with
    | false => left; simp
    | true =>
      rw [h]
      cases hw : okW zs.length l with
      | none => left; rfl
      | some t =>
        right
        have h1 := paid_le hp x.toNat t
        have h2 := cost_nonneg hp t
        have h3 := (okW_in hw).2
        have h4 := (priceB_yes h).1
        simp only [Bool.and_self, if_true]
        exact ⟨h1.1, h1.2, by omega⟩
  · left; rw [Bool.not_eq_true] at h; rw [h]; rfl

set_option maxHeartbeats 3200000 in
set_option maxRecDepth 100000 in
theorem walk_FnPaidFor (a0 : Option Addr) (len0 cap0 : Nat) (z0 : List Int) (w : World) (w0 : IsRowB .u8 w a0 len0 cap0 z0) :
    Calls Try.prog 5 #[.slice a0 len0 cap0] w fun e w' => e = .returned (.bool true) ∧ Below w.heap.size w w' := by
  by_cases hlen : 1048576 < len0
  · go_enter Try.func5, Try.ntmps5
    go_wp2
    go_ret
    exact ⟨rfl, Below.refl _ _⟩
  · go_enter Try.func5, Try.ntmps5
    go_wp2_with fail
    with_reducible refine (DrawPaidFor_any _ _ _ _ _ w0).mono ?_
    rintro e w1 ⟨⟨v, zs, l, x, rfl, hzl, hll, hx0, hx1, ho⟩, b1⟩
    have HR1 := Lib.hid ho.rd
    have HB1 := Lib.hid b1
    have H1 := Lib.hid (fun W hr => implPaidFor_any v zs l x W hr hll)
    have H2 := Lib.hid (fun W hr => specPaidFor_any v zs l x W hr hll (by omega))
    have H3 := Lib.hid (fun W hr => implNeedsOf_any v zs l W hr hll)
    have hcase := paidI_cases zs l x
    generalize hP : paidI zs l x = P at *
    generalize hN : needI zs l = N at *
    clear ho b1 w0 hP hN
    go_wp2_with fail
    with_reducible refine (H1.out _ HR1.out).mono ?_
    rintro e w2 ⟨rfl, b2⟩
    have HR2 := Lib.hid (HR1.out.below b2)
    have HB2 := Lib.hid (HB1.out.trans (b2.mono HB1.out.size))
    clear b2 HR1 HB1
    go_wp2_with fail
    with_reducible refine (H2.out _ HR2.out).mono ?_
    rintro e w3 ⟨rfl, m, rfl⟩
    have HR3 : Hid (Rd (w2.drewN m) v zs) := HR2.out
    have HB3 := Lib.hid (below_drewN HB2.out m)
    generalize w2.drewN m = w3 at *
    clear HR2 HB2
    rcases hcase with rfl | ⟨h0, h1, h2⟩
    · go_wp2_with fail
      with_reducible refine (alive_true _).mono ?_
      rintro e w' ⟨rfl, rfl⟩
      go_wp2
      go_ret
      exact ⟨rfl, HB3.out⟩
    · go_wp2_with fail
      with_reducible refine (H3.out _ HR3.out).mono ?_
      rintro e w4 ⟨rfl, b4⟩
      have HB4 := Lib.hid (HB3.out.trans (b4.mono HB3.out.size))
      clear b4 HR3
      go_wp2
      go_ret
      exact ⟨rfl, HB4.out⟩
end Go.Proofs.Ytcgpfdknadijlaa
