/- The walk of the law on NeedsOf. -/
import Derived.Test.YtcgpfdknadijlaaCoG
import Derived.Test.YtcgpfdknadijlaaCoK
import Derived.Test.YtcgpfdknadijlaaCoO
import Derived.Test.YtcgpfdknadijlaaCoU
import Derived.Test.YtcgpfdknadijlaaAlive
namespace Go.Proofs.Ytcgpfdknadijlaa
open Go.RowKit

theorem needI_cases (zs : List Int) (l : List UInt8) : needI zs l = -1 ∨ 0 ≤ needI zs l := by
  unfold needI
  by_cases h : priceB zs = true
  · rw [if_pos h]
    cases hw : okW zs.length l with
    | none => exact .inl rfl
    | some t => exact .inr (cost_nonneg (priceB_yes h).2 t).1
  · rw [if_neg h]; exact .inl rfl
theorem paidI_bd (zs : List Int) (l : List UInt8) (x : Int) : -1 ≤ paidI zs l x ∧ paidI zs l x ≤ 500 := by
  unfold paidI
  cases h : priceB zs with
  | false => simp
  | true =>
    cases hx : inB 0 ((zs.length : Int) - 1) x with
    | false => simp
    | true =>
      simp only [Bool.and_self, if_true]
      cases hw : okW zs.length l with
      | none => simp
      | some t =>
        have h1 := paid_le (priceB_yes h).2 x.toNat t
        have h2 := cost_nonneg (priceB_yes h).2 t
        have h3 := (okW_in hw).2
        have h4 := (priceB_yes h).1
        show -1 ≤ t.paid zs x.toNat ∧ t.paid zs x.toNat ≤ 500
        omega

set_option maxHeartbeats 3200000 in
set_option maxRecDepth 100000 in
theorem walk_FnNeedsOf (a0 : Option Addr) (len0 cap0 : Nat) (z0 : List Int) (w : World) (w0 : IsRowB .u8 w a0 len0 cap0 z0) :
    Calls Try.prog 4 #[.slice a0 len0 cap0] w fun e w' => e = .returned (.bool true) ∧ Below w.heap.size w w' := by
  by_cases hlen : 1048576 < len0
  · go_enter Try.func4, Try.ntmps4
    go_wp2
    go_ret
    exact ⟨rfl, Below.refl _ _⟩
  · go_enter Try.func4, Try.ntmps4
    go_wp2_with fail
    with_reducible refine (DrawNeedsOf_any _ _ _ _ _ w0).mono ?_
    rintro e w1 ⟨⟨v, zs, l, rfl, hzl, hll, ho⟩, b1⟩
    have HR1 := Lib.hid ho.rd
    have HB1 := Lib.hid b1
    have H1 := Lib.hid (fun W hr => implNeedsOf_any v zs l W hr hll)
    have H2 := Lib.hid (fun W hr => specNeedsOf_any v zs l W hr hll)
    have H3 := Lib.hid (fun W (hr : Rd W v zs) (k : Nat) => implPaidFor_any v zs l k W hr hll)
    have H4 := Lib.hid (fun W hr => implSureWith_any W v zs hr)
    have hcase : needI zs l = -1 ∨ (0 ≤ needI zs l ∧ needI zs l ≤ 500 ∧ sureI zs ≤ needI zs l ∧ Hid (mostP zs l zs.length = needI zs l)) := by
      rcases needI_cases zs l with h | h
      · exact .inl h
      · obtain ⟨h1, h2, h3, h4⟩ := sure_le h
        exact .inr ⟨h, h4, h2, h3⟩
    obtain ⟨a, c, rfl, l1, m1, -⟩ := ho.rd
    generalize hN : needI zs l = N at *
    generalize hS : sureI zs = S at *
    clear ho b1 w0 hN hS
    go_wp2_with fail
    with_reducible refine (H1.out _ HR1.out).mono ?_
    rintro e w2 ⟨rfl, b2⟩
    have HR2 := Lib.hid (HR1.out.below b2)
    have HB2 := Lib.hid (HB1.out.trans (b2.mono HB1.out.size))
    clear b2 HR1 HB1
    go_wp2_with fail
    with_reducible refine (H2.out _ HR2.out).mono ?_
    rintro e w3 ⟨rfl, m, rfl⟩
    have HR3 : Hid (Rd (w2.drewN m) (.slice a zs.length c) zs) := HR2.out
    have HB3 := Lib.hid (below_drewN HB2.out m)
    generalize w2.drewN m = w3 at *
    clear HR2 HB2 H1 H2
    rcases hcase with rfl | ⟨h0, h1, h2, h3⟩
    · go_wp2_with fail
      with_reducible refine (alive_true _).mono ?_
      rintro e w' ⟨rfl, rfl⟩
      go_wp2
      go_ret
      exact ⟨rfl, HB3.out⟩
    · go_wp2_with fail
      go_loopw [6, 7] (fun s6 s7 wr => ∃ (j : Nat) (M : Int), j ≤ zs.length ∧ Hid (M = mostP zs l j) ∧ 0 ≤ M ∧ M ≤ 500 ∧ s6 = .int .i64 M ∧ s7 = .int .i64 j ∧ Hid (Rd wr (.slice a zs.length c) zs) ∧ Hid (Below w.heap.size w wr))
        (fun _ s7 _ => zs.length - (intOf s7).toNat)
      case atStart => exact ⟨0, 0, Nat.zero_le _, rfl, by omega, by omega, rfl, rfl, HR3, HB3⟩
      case round =>
        clear HR3 HB3
        obtain ⟨j, M, hj, HM, hM0, hM1, rfl, rfl, HR, HB⟩ := hrel
        obtain ⟨wk, hwk⟩ : ∃ wk, wk = wr := ⟨_, rfl⟩
        subst hwk
        by_cases hjl : j < zs.length
        · have hP := paidI_bd zs l j
          have HMS : Hid (mostP zs l (j + 1) = max (mostP zs l j) (paidI zs l j)) := rfl
          have T := Lib.hid (H3.out _ HR.out j)
          obtain ⟨P, hPe⟩ : ∃ P, paidI zs l j = P := ⟨_, rfl⟩
          rw [hPe] at hP HMS T
          clear hPe
          go_wp2_with fail
          with_reducible refine T.out.mono ?_
          rintro e w5 ⟨rfl, b5⟩
          have HR5 := Lib.hid (HR.out.below b5)
          have HB5 := Lib.hid (HB.out.trans (b5.mono HB.out.size))
          clear b5 T
          have hc : (P ≤ M ∧ Hid (max M P = M)) ∨ (¬ P ≤ M ∧ Hid (max M P = P)) := by
            by_cases h : P ≤ M
            · exact .inl ⟨h, by show max M P = M; omega⟩
            · exact .inr ⟨h, by show max M P = P; omega⟩
          rcases hc with ⟨hc, hx⟩ | ⟨hc, hx⟩
          · go_wp2_with fail
            go_roundw
            case rel => exact ⟨j + 1, _, by omega, by rw [HMS.out, ← HM.out, hx.out]; exact Lib.hid rfl, by omega, by omega, rfl, by go_num, HR5, HB5⟩
            case measure => simp [intOf]; omega
          · go_wp2_with fail
            go_roundw
            case rel => exact ⟨j + 1, _, by omega, by rw [HMS.out, ← HM.out, hx.out]; exact Lib.hid rfl, by omega, by omega, rfl, by go_num, HR5, HB5⟩
            case measure => simp [intOf]; omega
        · have hje : j = zs.length := by omega
          subst hje
          have hMN := HM.out.trans h3.out
          subst hMN
          go_wp2_with fail
          with_reducible refine (H4.out _ HR.out).mono ?_
          rintro e w5 ⟨rfl, b5⟩
          have HB5 := Lib.hid (HB.out.trans (b5.mono HB.out.size))
          clear b5
          go_wp2
          go_ret
          exact ⟨rfl, HB5.out⟩
end Go.Proofs.Ytcgpfdknadijlaa
