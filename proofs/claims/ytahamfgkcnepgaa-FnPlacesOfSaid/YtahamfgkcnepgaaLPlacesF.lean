/- The walk of the law on PlacesOf. -/
import Derived.Test.YtahamfgkcnepgaaPlaces
import Derived.Test.YtahamfgkcnepgaaDrawSh
import Derived.Test.YtahamfgkcnepgaaAlive
namespace Go.Proofs.Ytahamfgkcnepgaa
open Go.RowKit

def countOk (R C L : Nat) : Bool := (placesL R C L R).length == (if L = 1 then R * C else R * (C + 1 - L) + C * (R + 1 - L))
theorem count_all : ((List.range 6).all fun r => (List.range 6).all fun c => (List.range 6).all fun l => countOk (r + 1) (c + 1) (l + 1)) = true := by decide +kernel
theorem count_at {R C L : Nat} (hR : 1 ≤ R ∧ R ≤ 6) (hC : 1 ≤ C ∧ C ≤ 6) (hL : 1 ≤ L ∧ L ≤ 6) : (placesL R C L R).length = if L = 1 then R * C else R * (C + 1 - L) + C * (R + 1 - L) := by
  have h := count_all
  simp only [List.all_eq_true, List.mem_range] at h
  have := h (R - 1) (by omega) (C - 1) (by omega) (L - 1) (by omega)
  rw [show R - 1 + 1 = R from by omega, show C - 1 + 1 = C from by omega, show L - 1 + 1 = L from by omega] at this
  exact beq_iff_eq.1 this

set_option maxHeartbeats 1600000 in
set_option maxRecDepth 100000 in
theorem walk_FnPlacesOf (a0 : Option Addr) (len0 cap0 : Nat) (z0 : List Int) (w : World) (w0 : IsRowB .u8 w a0 len0 cap0 z0) :
    Calls Try.prog 12 #[.slice a0 len0 cap0] w fun e w' => e = .returned (.bool true) ∧ Below w.heap.size w w' := by
  by_cases hlen : 1048576 < len0
  · go_enter Try.func12, Try.ntmps12
    go_wp2
    go_ret
    exact ⟨rfl, Below.refl _ _⟩
  · go_enter Try.func12, Try.ntmps12
    go_wp2_with fail
    refine (DrawPlacesOf_any _ _ _ _ _ w0).mono ?_
    rintro e w1 ⟨⟨r, c, l, rfl, hr, hc, hl⟩, b1⟩
    clear w0
    go_wp2_with fail
    refine (implPlacesOf_any r c l _).mono ?_
    rintro e w2 ⟨v, rfl, o2, b2⟩
    have bb2 := b1.trans (b2.mono b1.size)
    clear b1 b2
    go_wp2_with fail
    refine (specPlacesOf_any r c l _).mono ?_
    rintro e w3 ⟨v3, rfl, o3, b3⟩
    have bb3 := bb2.trans (b3.mono bb2.size)
    have r2 := (o2.below b3 (Nat.le_refl _)).rd
    have r3 := o3.rd
    clear b3 bb2 o2 o3
    go_wp2_with fail
    refine (samePlaces_true _ _ _ _ r2 r3).mono ?_
    rintro e w4 ⟨rfl, n, rfl⟩
    have HB := Lib.hid (below_drewN bb3 n)
    obtain ⟨a, cp, rfl, -⟩ := r2
    clear bb3 r3
    rcases Bool.eq_false_or_eq_true (placesB r c l) with hb | hb
    · obtain ⟨h1, h2, h3⟩ := placesB_yes hb
      have hI : placesI r c l = placesL r.toNat c.toNat l.toNat r.toNat := by unfold placesI; rw [if_pos hb]
      rw [hI]
      obtain ⟨R, rfl⟩ := Int.eq_ofNat_of_zero_le (a := r) (by omega)
      obtain ⟨C, rfl⟩ := Int.eq_ofNat_of_zero_le (a := c) (by omega)
      obtain ⟨L, rfl⟩ := Int.eq_ofNat_of_zero_le (a := l) (by omega)
      simp only [Int.toNat_natCast]
      have hn := count_at (R := R) (C := C) (L := L) (by omega) (by omega) (by omega)
      generalize (placesL R C L R).length = N at *
      clear hb hI hr hc hl
      by_cases hL1 : L = 1
      · rw [if_pos hL1] at hn
        have hm : (N : Int) = (R : Int) * (C : Int) := by rw [hn]; exact Int.natCast_mul R C
        have hb2 : (R : Int) * (C : Int) ≤ 36 := by
          have : (R : Int) * (C : Int) ≤ 6 * 6 := Int.mul_le_mul (by omega) (by omega) (by omega) (by omega)
          omega
        obtain ⟨P, hP⟩ : ∃ P, P = (R : Int) * (C : Int) := ⟨_, rfl⟩
        have hL1' : ((L : Int) == 1) = true := by simp [hL1]
        have hw : wrap64 ((R : Int) * (C : Int)) = N := by rw [← hm]; exact IntWalk.wrap64_in _ (by omega)
        have HM := Lib.hid hm
        have hN : N ≤ 36 := by omega
        clear hn hm hb2 hP hL1
        go_wp2
        go_ret
        exact ⟨rfl, HB.out⟩
      · rw [if_neg hL1] at hn
        have hL1' : ((L : Int) == 1) = false := by simp; omega
        have prod : ∀ a b : Nat, 1 ≤ a ∧ a ≤ 6 → 1 ≤ b ∧ b ≤ 6 → L ≤ b + 1 → wrap64 ((a : Int) * ((b : Int) - L + 1)) = ((a * (b + 1 - L) : Nat) : Int) := fun a b ha hb hl => by
          have e : ((b + 1 - L : Nat) : Int) = (b : Int) - L + 1 := by omega
          have hp : a * (b + 1 - L) ≤ 6 * 6 := Nat.mul_le_mul ha.2 (by omega)
          rw [← e, ← Int.natCast_mul]
          exact IntWalk.wrap64_in _ (by omega)
        have bd : ∀ a b : Nat, 1 ≤ a ∧ a ≤ 6 → 1 ≤ b ∧ b ≤ 6 → a * (b + 1 - L) ≤ 36 := fun a b ha hb => by
          have : a * (b + 1 - L) ≤ 6 * 6 := Nat.mul_le_mul ha.2 (by omega)
          omega
        have b1 := bd R C (by omega) (by omega)
        have b2 := bd C R (by omega) (by omega)
        by_cases hLC : L ≤ C + 1
        · have w1 := prod R C (by omega) (by omega) hLC
          have m1 : 0 ≤ (C : Int) - L + 1 := by omega
          by_cases hLR : L ≤ R + 1
          · have w2 := prod C R (by omega) (by omega) hLR
            have m2 : 0 ≤ (R : Int) - L + 1 := by omega
            generalize R * (C + 1 - L) = n1 at *
            generalize C * (R + 1 - L) = n2 at *
            have hq : ((N : Int) == (n1 : Int) + n2) = true := by simp; omega
            clear prod bd hn hL1
            go_wp2
            go_ret
            exact ⟨rfl, HB.out⟩
          · have z2 : C * (R + 1 - L) = 0 := by rw [show R + 1 - L = 0 from by omega, Nat.mul_zero]
            have m2 : ¬ 0 ≤ (R : Int) - L + 1 := by omega
            rw [z2, Nat.add_zero] at hn
            generalize R * (C + 1 - L) = n1 at *
            subst hn
            clear prod bd hL1 z2 b2
            go_wp2
            go_ret
            exact ⟨rfl, HB.out⟩
        · have z1 : R * (C + 1 - L) = 0 := by rw [show C + 1 - L = 0 from by omega, Nat.mul_zero]
          have m1 : ¬ 0 ≤ (C : Int) - L + 1 := by omega
          rw [z1, Nat.zero_add] at hn
          by_cases hLR : L ≤ R + 1
          · have w2 := prod C R (by omega) (by omega) hLR
            have m2 : 0 ≤ (R : Int) - L + 1 := by omega
            generalize C * (R + 1 - L) = n2 at *
            subst hn
            clear prod bd hL1 z1 b1
            go_wp2
            go_ret
            exact ⟨rfl, HB.out⟩
          · have z2 : C * (R + 1 - L) = 0 := by rw [show R + 1 - L = 0 from by omega, Nat.mul_zero]
            have m2 : ¬ 0 ≤ (R : Int) - L + 1 := by omega
            rw [z2] at hn
            subst hn
            clear prod bd hL1 z1 z2 b1 b2
            go_wp2
            go_ret
            exact ⟨rfl, HB.out⟩
    · have hI : placesI r c l = [] := by unfold placesI; rw [hb]; rfl
      rw [hI]
      have hbad : r < 1 ∨ 6 < r ∨ c < 1 ∨ 6 < c ∨ l < 1 ∨ 6 < l := by
        by_cases h : r < 1 ∨ 6 < r ∨ c < 1 ∨ 6 < c ∨ l < 1 ∨ 6 < l
        · exact h
        · exfalso
          have : placesB r c l = true := by
            unfold placesB
            rw [inB_true (by omega) (by omega), inB_true (by omega) (by omega), inB_true (by omega) (by omega)]; rfl
          rw [this] at hb; cases hb
      clear hb hI
      by_cases g1 : r < 1
      · clear hbad
        go_wp2_with fail
        refine (alive_true _).mono ?_
        rintro e w5 ⟨rfl, rfl⟩
        go_wp2
        go_ret
        exact ⟨rfl, HB.out⟩
      by_cases g2 : 6 < r
      · clear hbad
        go_wp2_with fail
        refine (alive_true _).mono ?_
        rintro e w5 ⟨rfl, rfl⟩
        go_wp2
        go_ret
        exact ⟨rfl, HB.out⟩
      by_cases g3 : c < 1
      · clear hbad
        go_wp2_with fail
        refine (alive_true _).mono ?_
        rintro e w5 ⟨rfl, rfl⟩
        go_wp2
        go_ret
        exact ⟨rfl, HB.out⟩
      by_cases g4 : 6 < c
      · clear hbad
        go_wp2_with fail
        refine (alive_true _).mono ?_
        rintro e w5 ⟨rfl, rfl⟩
        go_wp2
        go_ret
        exact ⟨rfl, HB.out⟩
      by_cases g5 : l < 1
      · clear hbad
        go_wp2_with fail
        refine (alive_true _).mono ?_
        rintro e w5 ⟨rfl, rfl⟩
        go_wp2
        go_ret
        exact ⟨rfl, HB.out⟩
      have g6 : 6 < l := by omega
      clear hbad
      go_wp2_with fail
      refine (alive_true _).mono ?_
      rintro e w5 ⟨rfl, rfl⟩
      go_wp2
      go_ret
      exact ⟨rfl, HB.out⟩
end Go.Proofs.Ytahamfgkcnepgaa
