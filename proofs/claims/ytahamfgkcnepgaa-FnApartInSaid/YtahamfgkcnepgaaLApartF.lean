/- The walk of the law on ApartIn. -/
import Derived.Test.YtahamfgkcnepgaaApartI
import Derived.Test.YtahamfgkcnepgaaApartP
import Derived.Test.YtahamfgkcnepgaaDrawSh
import Derived.Test.YtahamfgkcnepgaaAlive
namespace Go.Proofs.Ytahamfgkcnepgaa
open Go.RowKit

set_option maxHeartbeats 1600000 in
set_option maxRecDepth 100000 in
theorem walk_FnApartIn (a0 : Option Addr) (len0 cap0 : Nat) (z0 : List Int) (w : World) (w0 : IsRowB .u8 w a0 len0 cap0 z0) :
    Calls Try.prog 16 #[.slice a0 len0 cap0] w fun e w' => e = .returned (.bool true) ∧ Below w.heap.size w w' := by
  by_cases hlen : 1048576 < len0
  · go_enter Try.func16, Try.ntmps16
    go_wp2
    go_ret
    exact ⟨rfl, Below.refl _ _⟩
  · go_enter Try.func16, Try.ntmps16
    go_wp2_with fail
    refine (DrawApartIn_any _ _ _ _ _ w0).mono ?_
    rintro e w1 ⟨⟨r, c, l, rfl, -, -, -⟩, b1⟩
    clear w0
    go_wp2_with fail
    refine (implApartIn_any r c l _).mono ?_
    rintro e w2 ⟨rfl, b2⟩
    have bb := b1.trans (b2.mono b1.size)
    clear b1 b2
    go_wp2_with fail
    refine (specApartIn_any r c l _).mono ?_
    rintro e w3 ⟨rfl, b3⟩
    have HB := Lib.hid (bb.trans (b3.mono bb.size))
    clear bb b3
    rcases Bool.eq_false_or_eq_true (placesB r c l) with hb | hb
    rotate_left
    · have hl0 : apartI r c l = -1 := by unfold apartI; rw [hb]; rfl
      rw [hl0]
      clear hb hl0
      go_wp2_with fail
      refine (alive_true _).mono ?_
      rintro e w5 ⟨rfl, rfl⟩
      go_wp2
      go_ret
      exact ⟨rfl, HB.out⟩
    · obtain ⟨h1, h2, h3⟩ := placesB_yes hb
      obtain ⟨p1, p2, p3, p4⟩ := apart_law hb
      have HK := Lib.hid p4
      obtain ⟨n, hn⟩ : ∃ n, n = apartI r c l := ⟨_, rfl⟩
      rw [← hn] at HK p1 p2 p3 ⊢
      obtain ⟨L, rfl⟩ := Int.eq_ofNat_of_zero_le (a := l) (by omega)
      have hm0 : n * (L : Int) ≤ n * 6 := Int.mul_le_mul_of_nonneg_left (by omega) p1
      have hm1 : n * (L : Int) ≤ 432 ∧ 0 ≤ n * (L : Int) := ⟨by omega, Int.mul_nonneg p1 (by omega)⟩
      have hm2 : r * c ≤ 36 ∧ 0 ≤ r * c := ⟨by have := Int.mul_le_mul (a := r) (b := c) (c := 6) (d := 6) h1.2 h2.2 (by omega) (by omega); exact this, Int.mul_nonneg (by omega) (by omega)⟩
      obtain ⟨P, hP⟩ : ∃ P, P = n * (L : Int) := ⟨_, rfl⟩
      obtain ⟨Q, hQ⟩ : ∃ Q, Q = r * c := ⟨_, rfl⟩
      rw [← hP] at p3 hm1
      rw [← hQ] at p3 hm2
      have hw1 : wrap64 (n * (L : Int)) = P := by rw [← hP]; exact IntWalk.wrap64_in _ (by omega)
      have hw2 : wrap64 (r * c) = Q := by rw [← hQ]; exact IntWalk.wrap64_in _ (by omega)
      have HW := Lib.hid (And.intro hw1 hw2)
      clear hb hn hP hQ p4 hw1 hw2 hm0
      go_wp2_with fail
      go_loopw [7] (fun i wr => ∃ k : Nat, k ≤ L ∧ i = .int .i64 k ∧ Below w3.heap.size w3 wr) (fun i _ => L - (intOf i).toNat)
      case atStart => exact ⟨0, Nat.zero_le _, rfl, Below.refl _ _⟩
      case round =>
        obtain ⟨k, hk, rfl, hbr⟩ := hrel
        by_cases hlt : k < L
        · go_wp2_with fail
          refine (implDiagonalShots_any r c L k _).mono ?_
          rintro e w7 ⟨v7, us7, rfl, o7, b7⟩
          have hb7 := hbr.trans (b7.mono hbr.size)
          have r7 := o7.rd
          clear o7 b7 hbr
          go_wp2_with fail
          refine (implShotsIn_any r c v7 _ _ r7).mono ?_
          rintro e w8 ⟨rfl, b8⟩
          have hle := HK.out k (by omega)
          generalize shotsIn r c (diagI r c L k) = S at *
          have HB8 := Lib.hid (hb7.trans (b8.mono hb7.size))
          clear r7 hb7 b8
          go_wp2
          go_roundw
          case rel => exact ⟨k + 1, by omega, by go_num, HB8.out⟩
          case measure => simp [intOf]; omega
        · have hk' : k = L := by omega
          subst hk'
          have HB5 := Lib.hid (HB.out.trans (hbr.mono HB.out.size))
          obtain ⟨hw1, hw2⟩ := HW.out
          clear hbr
          go_wp2
          go_ret
          exact ⟨rfl, HB5.out⟩
end Go.Proofs.Ytahamfgkcnepgaa
