/- The walk of the law on BestGuesses. -/
import Derived.Test.YtcgpfdknadijlaaCoG
import Derived.Test.YtcgpfdknadijlaaCoK
import Derived.Test.YtcgpfdknadijlaaCoO
import Derived.Test.YtcgpfdknadijlaaCoTx
import Derived.Test.YtcgpfdknadijlaaAlive
namespace Go.Proofs.Ytcgpfdknadijlaa
open Go.RowKit

set_option maxHeartbeats 3200000 in
set_option maxRecDepth 100000 in
theorem walk_FnBestGuesses (a0 : Option Addr) (len0 cap0 : Nat) (z0 : List Int) (w : World) (w0 : IsRowB .u8 w a0 len0 cap0 z0) :
    Calls Try.prog 3 #[.slice a0 len0 cap0] w fun e w' => e = .returned (.bool true) ∧ Below w.heap.size w w' := by
  by_cases hlen : 1048576 < len0
  · go_enter Try.func3, Try.ntmps3
    go_wp2
    go_ret
    exact ⟨rfl, Below.refl _ _⟩
  · go_enter Try.func3, Try.ntmps3
    go_wp2_with fail
    with_reducible refine (DrawBestGuesses_any _ _ _ _ _ w0).mono ?_
    rintro e w1 ⟨⟨v, zs, rfl, hzl, ho⟩, b1⟩
    have HR1 := Lib.hid ho.rd
    have HB1 := Lib.hid b1
    have H1 := Lib.hid (fun W hr => implBestGuesses_any W v zs hr)
    have H2 := Lib.hid (fun W hr => specBestGuesses_any W v zs hr)
    have H3 := Lib.hid (fun W (hr : Rd W v zs) => implNeedsOf_any v zs (bestT zs) W hr bestT_length)
    have H4 := Lib.hid (fun W hr => implSureWith_any W v zs hr)
    have H5 := Lib.hid (fun W hr => implPricesOk_any v zs W hr)
    have hcase : (priceB zs = false ∧ (tx (bestT zs)).toList.isEmpty = true) ∨ (priceB zs = true ∧ (tx (bestT zs)).toList.isEmpty = false ∧ Hid (needI zs (bestT zs) = sureI zs)) := by
      rw [tx_empty]
      cases h : priceB zs with
      | false => exact .inl ⟨rfl, by unfold bestT; rw [h]; rfl⟩
      | true =>
        refine .inr ⟨rfl, ?_, needI_best h⟩
        have h1 := bestT_pos h
        cases hb : bestT zs with
        | nil => rw [hb] at h1; exact absurd h1 (Nat.lt_irrefl _)
        | cons x r => rfl
    obtain ⟨a, c, rfl, l1, m1, -⟩ := ho.rd
    generalize tx (bestT zs) = T at *
    generalize hN : needI zs (bestT zs) = N at *
    generalize hS : sureI zs = S at *
    clear ho b1 w0 hN hS
    go_wp2_with fail
    with_reducible refine (H1.out _ HR1.out).mono ?_
    rintro e w2 ⟨rfl, b2⟩
    have HR2 := Lib.hid (HR1.out.below b2)
    have HB2 := Lib.hid (HB1.out.trans (b2.mono HB1.out.size))
    clear b2 HR1 HB1 H1
    go_wp2_with fail
    with_reducible refine (H2.out _ HR2.out).mono ?_
    rintro e w3 ⟨rfl, b3⟩
    have HR3 := Lib.hid (HR2.out.below b3)
    have HB3 := Lib.hid (HB2.out.trans (b3.mono HB2.out.size))
    clear b3 HR2 HB2 H2
    rcases hcase with ⟨hp, hne⟩ | ⟨hp, hne, hns⟩
    · rw [hp] at H5
      clear H3 H4 hp
      go_wp2_with fail
      with_reducible refine (H5.out _ HR3.out).mono ?_
      rintro e w4 ⟨rfl, b4⟩
      have HB4 := Lib.hid (HB3.out.trans (b4.mono HB3.out.size))
      clear b4 H5 HR3 HB3
      go_wp2_with fail
      with_reducible refine (alive_true _).mono ?_
      rintro e w' ⟨rfl, rfl⟩
      go_wp2
      go_ret
      exact ⟨rfl, HB4.out⟩
    · obtain rfl := hns.out
      clear H5 hp hns
      go_wp2_with fail
      with_reducible refine (H3.out _ HR3.out).mono ?_
      rintro e w4 ⟨rfl, b4⟩
      have HR4 := Lib.hid (HR3.out.below b4)
      have HB4 := Lib.hid (HB3.out.trans (b4.mono HB3.out.size))
      clear b4 H3 HR3 HB3
      go_wp2_with fail
      with_reducible refine (H4.out _ HR4.out).mono ?_
      rintro e w5 ⟨rfl, b5⟩
      have HB5 := Lib.hid (HB4.out.trans (b5.mono HB4.out.size))
      clear b5 H4 HR4 HB4
      go_wp2
      go_ret
      exact ⟨rfl, HB5.out⟩
end Go.Proofs.Ytcgpfdknadijlaa
