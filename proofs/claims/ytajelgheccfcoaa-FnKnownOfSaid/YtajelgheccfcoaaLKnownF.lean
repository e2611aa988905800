/- The walk of the law on KnownOf. -/
import Derived.Test.YtajelgheccfcoaaDrawSa
import Derived.Test.YtajelgheccfcoaaFoundP
import Derived.Test.YtajelgheccfcoaaKnownS
import Derived.Test.YtajelgheccfcoaaAlive
namespace Go.Proofs.Ytajelgheccfcoaa
open Go.RowKit

theorem syR_brief {p : Int} {ps : List Sy} (h : SyR p ps) : Brief ps := fun q hq => by have := (h.2.2.2 q hq).1; omega
/-- Where somebody is known, each way has it so. -/
theorem known_way {ks : List Nat} {i : Nat} {k : Nat} (hk : k ∈ ks) (h : knownAt ks i < 2) : ((k / 2 ^ i % 2 : Nat) : Int) = knownAt ks i := by
  have h2 := Nat.mod_two_eq_zero_or_one (k / 2 ^ i)
  have ht : k.testBit i = decide (k / 2 ^ i % 2 = 1) := Nat.testBit_eq_decide_div_mod_eq
  unfold knownAt at h ⊢
  split
  · rename_i h1
    have := List.all_eq_true.1 h1 k hk
    rw [ht, decide_eq_true_eq] at this
    rw [this]; rfl
  · rename_i h1
    rw [if_neg h1] at h
    split
    · rename_i h3; rw [if_pos h3] at h; omega
    · rename_i h3
      have hb : k.testBit i ≠ true := fun hb => h3 (List.any_eq_true.2 ⟨k, hk, hb⟩)
      rw [ht, Ne, decide_eq_true_eq] at hb
      have : k / 2 ^ i % 2 = 0 := by omega
      rw [this]; rfl

set_option maxHeartbeats 3200000 in
set_option maxRecDepth 100000 in
theorem walk_FnKnownOf (a0 : Option Addr) (len0 cap0 : Nat) (z0 : List Int) (w : World) (w0 : IsRowB .u8 w a0 len0 cap0 z0) :
    Calls Try.prog 11 #[.slice a0 len0 cap0] w fun e w' => e = .returned (.bool true) ∧ Below w.heap.size w w' := by
  by_cases hlen : 1048576 < len0
  · go_enter Try.func11, Try.ntmps11
    go_wp2
    go_ret
    exact ⟨rfl, Below.refl _ _⟩
  · go_enter Try.func11, Try.ntmps11
    go_wp2_with fail
    with_reducible refine (DrawKnownOf_any _ _ _ _ _ w0).mono ?_
    rintro e w1 ⟨⟨p, v, ps, rfl, hs, ho⟩, b1⟩
    have HBF := Lib.hid (syR_brief hs)
    have HR1 := Lib.hid ho.rd
    have HB1 := Lib.hid b1
    clear ho b1 w0 hs
    have H1 : Hid (∀ W (hr : RdS W v ps), Calls Try.prog 26 #[.int .i64 p, v] W fun e w' => ∃ v', e = .returned v' ∧ Own w' W.heap.size w'.heap.size v' (knownI p (waysN p ps)) ∧ Below W.heap.size W w') := fun W hr => implKnownOf_any p v ps W HBF.out hr
    have H2 : Hid (∀ W (hr : RdS W v ps), Calls Try.prog 25 #[.int .i64 p, v] W fun e w' => ∃ v', e = .returned v' ∧ Own w' W.heap.size w'.heap.size v' (knownI p (waysN p ps)) ∧ Below W.heap.size W w') := fun W hr => specKnownOf_any p v ps W HBF.out hr
    have H3 : Hid (∀ W (hr : RdS W v ps), Calls Try.prog 20 #[.int .i64 p, v] W fun e w' => ∃ v', e = .returned v' ∧ Own w' W.heap.size w'.heap.size v' ((waysN p ps).map fun (k : Nat) => (k : Int)) ∧ Below W.heap.size W w') := fun W hr => by
      have := implWaysOf_any p v ps W HBF.out hr; rwa [waysI_N] at this
    have HG := Lib.hid (knownI_get p (waysN p ps))
    have hl5 := length_knownI5 p ps
    have H32 : Hid (∀ k ∈ waysN p ps, k < 32) := waysN_32
    have hln := length_waysN p ps
    have HKW : Hid (∀ (i j : Nat) (hj : j < (waysN p ps).length), knownAt (waysN p ps) i < 2 → (((waysN p ps)[j] / 2 ^ i % 2 : Nat) : Int) = knownAt (waysN p ps) i) := fun i j hj h => known_way (List.getElem_mem hj) h
    have HLEN : Hid (0 < (knownI p (waysN p ps)).length → ((knownI p (waysN p ps)).length : Int) = p ∧ 0 < (waysN p ps).length) := by
      intro h
      have hsay := waysN_say (p := p) (ps := ps)
      unfold knownI at h ⊢
      split at h
      · simp at h
      · rename_i hne
        rw [if_neg hne, length_knownL]
        have := hsay hne
        exact ⟨by omega, List.length_pos_iff.2 hne⟩
    generalize hK : knownI p (waysN p ps) = K at *
    generalize waysN p ps = ks at *
    clear hK
    go_wp2_with fail
    with_reducible refine (H1.out _ HR1.out).mono ?_
    rintro e w2 ⟨v2, rfl, o2, b2⟩
    have HR2 := Lib.hid (HR1.out.below b2 (Nat.le_refl _))
    have HB2 := Lib.hid (HB1.out.trans (b2.mono HB1.out.size))
    have HO2 := Lib.hid o2
    clear b2 HR1 HB1 o2
    go_wp2_with fail
    with_reducible refine (H2.out _ HR2.out).mono ?_
    rintro e w3 ⟨v3, rfl, o3, b3⟩
    have HR3 := Lib.hid (HR2.out.below b3 (Nat.le_refl _))
    have HB3 := Lib.hid (HB2.out.trans (b3.mono HB2.out.size))
    have HO23 := Lib.hid (HO2.out.below b3 (Nat.le_refl _))
    have HO3 := Lib.hid o3.rd
    clear b3 HR2 HB2 HO2 o3
    go_wp2_with fail
    with_reducible refine (sameInts_true _ _ K _ HO23.out.rd HO3.out).mono ?_
    rintro e w4 ⟨rfl, n4, rfl⟩
    have HR4 : Hid (RdS (w3.drewN n4) v ps) := HR3.out
    have HB4 := Lib.hid (below_drewN HB3.out n4)
    have HO4 : Hid (Rd (w3.drewN n4) v2 K) := HO23.out.rd
    generalize w3.drewN n4 = w4 at *
    clear HR3 HB3 HO23 HO3
    obtain ⟨A2, C2, rfl, L2, M2, R2⟩ := HO4.out
    by_cases hK0 : K.length = 0
    · have g0 : ((K.length : Int) == 0) = true := by simp [hK0]
      clear R2
      go_wp2_with fail
      with_reducible refine (alive_true _).mono ?_
      rintro e w' ⟨rfl, rfl⟩
      go_wp2
      go_ret
      exact ⟨rfl, HB4.out⟩
    · obtain ⟨hpl, hkl⟩ := HLEN.out (by omega)
      have HPL := Lib.hid hpl
      clear hpl
      have g0 : ((K.length : Int) == 0) = false := by rw [beq_eq_false_iff_ne]; omega
      go_wp2_with fail
      with_reducible refine (H3.out _ HR4.out).mono ?_
      rintro e w5 ⟨v5, rfl, o5, b5⟩
      obtain ⟨A5, C5, rfl, L5, M5, R5⟩ := rd_nat o5.rd
      have HO5 := Lib.hid (HO4.out.below b5)
      have HB5 := Lib.hid (HB4.out.trans (b5.mono HB4.out.size))
      have HR5 := Lib.hid R5
      clear b5 o5 HB4 HO4 HR4 R2 R5
      have h52 : ∀ n, Rd (w5.drewN n) (.slice A2 K.length C2) K := fun n => HO5.out.drewN n
      have H52 := Lib.hid h52
      clear h52
      go_wp2_with fail
      go_loopw [7] (fun i wr => ∃ k : Nat, k ≤ K.length ∧ i = .int .i64 k ∧ ∃ n, wr = w5.drewN n) (fun i _ => K.length - (intOf i).toNat)
      case atStart => exact ⟨0, Nat.zero_le _, rfl, 0, rfl⟩
      case round =>
        obtain ⟨i, hi, rfl, n1, rfl⟩ := hrel
        by_cases hlt : i < K.length
        · go_wp2_with fail
          go_loopw [8] (fun q wr => ∃ j : Nat, j ≤ ks.length ∧ q = .int .i64 j ∧ ∃ n, wr = w5.drewN n) (fun q _ => ks.length - (intOf q).toNat)
          case atStart => exact ⟨0, Nat.zero_le _, rfl, n1, rfl⟩
          case round =>
            obtain ⟨j, hj, rfl, n2, rfl⟩ := hrel
            by_cases hlj : j < ks.length
            · obtain ⟨g5, o5, e5, hg5, y5⟩ := HR5.out j hlj
              obtain ⟨a', c', e6, -, -, r6⟩ := H52.out n2
              injection e6 with e7 e8 e9
              subst e7 e9
              obtain ⟨g6, o6, z, e10, hg6, y6, HZ⟩ := rd_at r6 i hlt
              subst e5 e10
              have hz : z = knownAt ks i := by rw [HZ.out, HG.out i hlt]
              have hkw := HKW.out i j hlj
              rw [← hz] at hkw
              have hk32 := H32.out _ (List.getElem_mem hlj)
              obtain ⟨D, hD⟩ : ∃ D, D = ks[j] / 2 ^ i := ⟨_, rfl⟩
              rw [← hD] at hkw
              have hdiv : ((ks[j] : Nat) : Int) / 2 ^ i = (D : Int) := by rw [hD]; simp
              have hi5 : i ≤ 4 := by omega
              have y5' : (w5.drewN n2).cell? ⟨g5, o5 + j, none⟩ = some (.int .i64 (ks[j] : Nat)) := y5
              obtain ⟨w8, hw8⟩ : ∃ w8, w8 = w5.drewN n2 := ⟨_, rfl⟩
              rw [← hw8] at y5' y6 hg6 ⊢
              have HW8 : Hid (∀ n, w8.drewN n = w5.drewN (n2 + n)) := fun n => by rw [hw8, World.drewN_drewN]
              have hD2 : D % 2 = 0 ∨ D % 2 = 1 := by omega
              clear hw8 HZ hz r6 hD y5 HR5
              generalize ks[j] = k at *
              by_cases hz2 : z < 2
              · have hkz := hkw hz2
                clear hkw
                obtain h2 | h2 := hD2
                all_goals
                  rw [h2] at hkz
                  have h2' : (D : Int) % 2 = _ := congrArg Int.ofNat h2
                  subst hkz
                  go_wp2
                  go_quiet (fail)
                  go_wp2
                  go_roundw
                  case rel => exact ⟨j + 1, by omega, by go_num, _, HW8.out _⟩
                  case measure => simp [intOf]; omega
              · have hd2 : decide (z < 2) = false := by simpa using hz2
                clear hkw
                go_wp2
                go_quiet (fail)
                go_wp2
                go_roundw
                case rel => exact ⟨j + 1, by omega, by go_num, _, HW8.out _⟩
                case measure => simp [intOf]; omega
            · have hj' : j = ks.length := by omega
              go_wp2
              go_roundw
              case rel => exact ⟨i + 1, by omega, by go_num, _, rfl⟩
              case measure => simp [intOf]; omega
        · have hi' : i = K.length := by omega
          have HBE := Lib.hid (below_drewN HB5.out n1)
          have hkl2 : decide (0 < ks.length) = true := by simpa using hkl
          rw [← HPL.out]
          go_wp2
          go_ret
          exact ⟨rfl, HBE.out⟩
end Go.Proofs.Ytajelgheccfcoaa
