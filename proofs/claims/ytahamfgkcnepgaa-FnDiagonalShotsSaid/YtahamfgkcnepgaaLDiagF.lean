/- The walk of the law on DiagonalShots. -/
import Derived.Test.YtahamfgkcnepgaaDiagP
import Derived.Test.YtahamfgkcnepgaaSure
import Derived.Test.YtahamfgkcnepgaaDrawSh
import Derived.Test.YtahamfgkcnepgaaAlive
namespace Go.Proofs.Ytahamfgkcnepgaa
open Go.RowKit

theorem diagB_rem {rows cols long rem : Int} (h : diagB rows cols long rem = true) (k : Int) (h0 : 0 ≤ k) (h1 : k < long) : diagB rows cols long k = true := by
  obtain ⟨a1, a2, a3, a4⟩ := diagB_yes h
  simp only [diagB, inB, Bool.and_eq_true, decide_eq_true_eq]
  exact ⟨a1, a2, a3, by omega⟩

set_option maxHeartbeats 1600000 in
set_option maxRecDepth 100000 in
theorem walk_FnDiagonalShots (a0 : Option Addr) (len0 cap0 : Nat) (z0 : List Int) (w : World) (w0 : IsRowB .u8 w a0 len0 cap0 z0) :
    Calls Try.prog 17 #[.slice a0 len0 cap0] w fun e w' => e = .returned (.bool true) ∧ Below w.heap.size w w' := by
  by_cases hlen : 1048576 < len0
  · go_enter Try.func17, Try.ntmps17
    go_wp2
    go_ret
    exact ⟨rfl, Below.refl _ _⟩
  · go_enter Try.func17, Try.ntmps17
    go_wp2_with fail
    refine (DrawDiagonalShots_any _ _ _ _ _ w0).mono ?_
    rintro e w1 ⟨⟨r, c, l, m, rfl, -, -, -, -⟩, b1⟩
    clear w0
    go_wp2_with fail
    refine (implDiagonalShots_any r c l m _).mono ?_
    rintro e w2 ⟨v2, us2, rfl, o2, b2⟩
    have bb := b1.trans (b2.mono b1.size)
    clear b1 b2
    go_wp2_with fail
    refine (specDiagonalShots_any r c l m _).mono ?_
    rintro e w3 ⟨v3, us3, rfl, o3, b3⟩
    have r2 := o2.rd.below b3
    have bb3 := bb.trans (b3.mono bb.size)
    have r3 := o3.rd
    clear bb b3 o2 o3
    go_wp2_with fail
    refine (sameRows_true _ _ _ _ r2 r3).mono ?_
    rintro e w4 ⟨rfl, n, rfl⟩
    have HR2 := Lib.hid (r2.drewN n)
    have HB := Lib.hid (below_drewN bb3 n)
    clear r2 r3 bb3
    generalize w3.drewN n = w5 at *
    rcases Bool.eq_false_or_eq_true (diagB r c l m) with hb | hb
    rotate_left
    · have hl0 : diagI r c l m = [] := by unfold diagI; rw [hb]; rfl
      rw [hl0] at HR2
      obtain ⟨a, cp, e7, -⟩ := HR2.out
      subst e7
      clear hb hl0
      simp only [List.length_nil]
      go_wp2_with fail
      refine (alive_true _).mono ?_
      rintro e w5 ⟨rfl, rfl⟩
      go_wp2
      go_ret
      exact ⟨rfl, HB.out⟩
    · obtain ⟨h1, h2, h3, h4⟩ := diagB_yes hb
      have hll : (diagI r c l m).length = r.toNat := by unfold diagI; rw [if_pos hb, length_diagL]
      have HSB := Lib.hid (shotsB_diag hb)
      have HST := Lib.hid (diag_still hb)
      have HSH : Hid (sureI r c (diagI r c l m) l = true) := by
        unfold Hid sureI
        rw [HSB.out, HST.out, inB_true (by omega) (by omega)]; rfl
      have HK : Hid (∀ k : Nat, (k : Int) < l → shotsIn r c (diagI r c l k) = sumR (diagL l k c.toNat r.toNat) ∧ diagSum r c l (k + 1) = diagSum r c l k + sumR (diagL l k c.toNat r.toNat)) := fun k hk => by
        have hbk := diagB_rem hb k (by omega) hk
        refine ⟨?_, diagSum_succ _ _ _ _⟩
        unfold shotsIn
        rw [shotsB_diag hbk, if_pos rfl]
        unfold diagI
        rw [if_pos hbk]
      have HBD : Hid (∀ k : Nat, (k : Int) ≤ l → 0 ≤ diagSum r c l k ∧ diagSum r c l k ≤ 36 * k) := fun k => by
        induction k with
        | zero => intro _; unfold diagSum; simp [sumI]
        | succ k ih =>
          intro hk
          have i1 := ih (by omega)
          have hbk := diagB_rem hb k (by omega) (by omega)
          obtain ⟨q1, q2, q3, q4⟩ := shotsB_yes (shotsB_diag hbk)
          have := sumR_bd _ q4 (by omega) (diagI r c l k).length (Nat.le_refl _)
          rw [List.take_length] at this
          have e : diagI r c l k = diagL l k c.toNat r.toNat := by unfold diagI; rw [if_pos hbk]
          rw [e] at this q3
          rw [diagSum_succ]
          omega
      have HALL : Hid (diagSum r c l l.toNat = r * c) := by
        have := diag_all ⟨r.toNat, by omega⟩ ⟨c.toNat, by omega⟩ ⟨l.toNat, by omega⟩ (by show 0 < l.toNat; omega)
        unfold Hid
        rw [show ((r.toNat : Nat) : Int) = r from by omega, show ((c.toNat : Nat) : Int) = c from by omega, show ((l.toNat : Nat) : Int) = l from by omega] at this
        exact this
      obtain ⟨L, rfl⟩ := Int.eq_ofNat_of_zero_le (a := l) (by omega)
      obtain ⟨R, rfl⟩ := Int.eq_ofNat_of_zero_le (a := r) (by omega)
      rw [Int.toNat_natCast] at hll
      obtain ⟨a, cp, e7, -⟩ := HR2.out
      subst e7
      rw [hll] at HR2 ⊢
      have hrz : ((R : Int) == 0) = false := beq_eq_false_iff_ne.2 (by omega)
      have hs := HB.out.size
      clear hb hll
      go_wp2_with fail
      go_loopw [8, 9] (fun q i wr => ∃ k : Nat, k ≤ L ∧ i = .int .i64 k ∧ q = .int .i64 (diagSum (R : Int) c L k) ∧ Below w5.heap.size w5 wr) (fun _ i _ => L - (intOf i).toNat)
      case atStart => exact ⟨0, Nat.zero_le _, rfl, rfl, Below.refl _ _⟩
      case round =>
        obtain ⟨k, hk, rfl, rfl, hbr⟩ := hrel
        have hbd := HBD.out k (by omega)
        by_cases hlt : k < L
        · obtain ⟨k1, k2⟩ := HK.out k (by omega)
          have hbd2 := HBD.out (k + 1) (by omega)
          rw [k2] at hbd2
          obtain ⟨t, ht⟩ : ∃ t, t = diagSum (R : Int) c L k := ⟨_, rfl⟩
          obtain ⟨s, hs2⟩ : ∃ s, s = sumR (diagL L k c.toNat (R : Int).toNat) := ⟨_, rfl⟩
          rw [← ht] at hbd hbd2 k2 ⊢
          rw [← hs2] at k1 k2 hbd2
          have HK1 := Lib.hid k1; have HK2 := Lib.hid k2
          clear k1 k2 ht hs2
          go_wp2_with fail
          refine (implDiagonalShots_any R c L k _).mono ?_
          rintro e w7 ⟨v7, us7, rfl, o7, b7⟩
          have hb7 := hbr.trans (b7.mono hbr.size)
          have r7 := o7.rd
          clear o7 b7 hbr
          go_wp2_with fail
          refine (implShotsIn_any R c v7 _ _ r7).mono ?_
          rintro e w8 ⟨rfl, b8⟩
          rw [HK1.out]
          have HB8 := Lib.hid (hb7.trans (b8.mono hb7.size))
          clear r7 hb7 b8
          go_wp2
          go_roundw
          case rel => exact ⟨k + 1, by omega, by go_num, by rw [HK2.out], HB8.out⟩
          case measure => simp [intOf]; omega
        · have hk' : k = L := by omega
          subst hk'
          have hall := HALL.out
          rw [Int.toNat_natCast] at hall
          rw [hall] at hbd ⊢
          obtain ⟨P, hP⟩ : ∃ P, P = (R : Int) * c := ⟨_, rfl⟩
          rw [← hP] at hbd ⊢
          have hw : wrap64 ((R : Int) * c) = P := by rw [← hP]; exact IntWalk.wrap64_in _ (by omega)
          clear hP
          have HR3 := Lib.hid (HR2.out.below hbr)
          have HB5 := Lib.hid (HB.out.trans (hbr.mono hs))
          clear hbr hall
          go_wp2_with fail
          refine (implSureHit_any R c k _ _ _ HR3.out).mono ?_
          rintro e w8 ⟨rfl, b8⟩
          rw [HSH.out]
          have HB8 := Lib.hid (HB5.out.trans (b8.mono HB5.out.size))
          clear b8
          go_wp2
          go_ret
          exact ⟨rfl, HB8.out⟩
end Go.Proofs.Ytahamfgkcnepgaa
