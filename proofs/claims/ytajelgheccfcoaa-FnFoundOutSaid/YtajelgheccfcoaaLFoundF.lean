/- The walk of the law on FoundOut. -/
import Derived.Test.YtajelgheccfcoaaDrawSa
import Derived.Test.YtajelgheccfcoaaFound
import Derived.Test.YtajelgheccfcoaaFoundP
import Derived.Test.YtajelgheccfcoaaKnownI
import Derived.Test.YtajelgheccfcoaaAlive
namespace Go.Proofs.Ytajelgheccfcoaa
open Go.RowKit

theorem syR_brief {p : Int} {ps : List Sy} (h : SyR p ps) : Brief ps := fun q hq => by have := (h.2.2.2 q hq).1; omega

set_option maxHeartbeats 3200000 in
set_option maxRecDepth 100000 in
theorem walk_FnFoundOut (a0 : Option Addr) (len0 cap0 : Nat) (z0 : List Int) (w : World) (w0 : IsRowB .u8 w a0 len0 cap0 z0) :
    Calls Try.prog 10 #[.slice a0 len0 cap0] w fun e w' => e = .returned (.bool true) ∧ Below w.heap.size w w' := by
  by_cases hlen : 1048576 < len0
  · go_enter Try.func10, Try.ntmps10
    go_wp2
    go_ret
    exact ⟨rfl, Below.refl _ _⟩
  · go_enter Try.func10, Try.ntmps10
    go_wp2_with fail
    with_reducible refine (DrawFoundOut_any _ _ _ _ _ w0).mono ?_
    rintro e w1 ⟨⟨p, v, ps, rfl, hs, ho⟩, b1⟩
    have HBF := Lib.hid (syR_brief hs)
    have HR1 := Lib.hid ho.rd
    have HB1 := Lib.hid b1
    clear ho b1 w0 hs
    obtain ⟨F1, F2, hF⟩ : ∃ F1 F2, foundI (waysI p ps) = (F1, F2) := ⟨_, _, rfl⟩
    have H1 : Hid (∀ W (hr : RdS W v ps), Calls Try.prog 15 #[.int .i64 p, v] W fun e w' => e = .returned (.tuple #[.int .i64 F1, .bool F2]) ∧ Below W.heap.size W w') := fun W hr => by
      have := implFoundOut_any p v ps W HBF.out hr; rwa [hF] at this
    have H2 : Hid (∀ W (hr : RdS W v ps), Calls Try.prog 13 #[.int .i64 p, v] W fun e w' => e = .returned (.tuple #[.int .i64 F1, .bool F2]) ∧ Below W.heap.size W w') := fun W hr => by
      have := specFoundOut_any p v ps W HBF.out hr; rwa [hF] at this
    have H3 : Hid (∀ W (hr : RdS W v ps), Calls Try.prog 26 #[.int .i64 p, v] W fun e w' => ∃ v', e = .returned v' ∧ Own w' W.heap.size w'.heap.size v' (knownI p (waysN p ps)) ∧ Below W.heap.size W w') := fun W hr => implKnownOf_any p v ps W HBF.out hr
    have hfk := found_known p ps
    have HG := Lib.hid (knownI_get p (waysN p ps))
    have hl5 := length_knownI5 p ps
    have HSU := Lib.hid (sumK_bd (waysN p ps))
    have HSH := Lib.hid (shl_at (waysN p ps))
    have hcase : (F2 = true ∧ 0 < (knownI p (waysN p ps)).length ∧ hasB 2 (knownI p (waysN p ps)) = false ∧ sumK (knownAt (waysN p ps)) (knownI p (waysN p ps)).length = F1) ∨ (F2 = false ∧ F1 = -1 ∧ (0 < (knownI p (waysN p ps)).length → hasB 2 (knownI p (waysN p ps)) = true)) := by
      have hsay := waysN_say (p := p) (ps := ps)
      rw [waysI_N] at hF
      generalize waysN p ps = ks at *
      unfold foundI at hF
      rw [List.length_map] at hF
      by_cases h1 : ks.length = 1
      · left
        obtain ⟨h2, h3⟩ := hfk.1.1 h1
        obtain ⟨k, rfl⟩ := List.length_eq_one_iff.1 h1
        rw [if_pos h1] at hF
        injection hF with e1 e2
        refine ⟨e2.symm, h2, ?_, ?_⟩
        · unfold hasB; rw [List.contains_eq_mem]; simpa using h3
        · have hk := hfk.2 k rfl
          have : (knownI p [k]).length = p.toNat := by unfold knownI; rw [if_neg (by simp), length_knownL]
          rw [this, hk, ← e1]; rfl
      · right
        rw [if_neg h1] at hF
        injection hF with e1 e2
        refine ⟨e2.symm, e1.symm, fun h => ?_⟩
        unfold hasB; rw [List.contains_eq_mem]
        refine decide_eq_true (Classical.byContradiction fun hn => h1 (hfk.1.2 ⟨h, hn⟩))
    clear hfk hF
    generalize hK : knownI p (waysN p ps) = K at *
    generalize waysN p ps = ks at *
    have HCS := Lib.hid hcase
    clear hcase hK
    go_wp2_with fail
    with_reducible refine (H1.out _ HR1.out).mono ?_
    rintro e w2 ⟨rfl, b2⟩
    have HR2 := Lib.hid (HR1.out.below b2 (Nat.le_refl _))
    have HB2 := Lib.hid (HB1.out.trans (b2.mono HB1.out.size))
    clear b2 HR1 HB1
    go_wp2_with fail
    with_reducible refine (H2.out _ HR2.out).mono ?_
    rintro e w3 ⟨rfl, b3⟩
    have HR3 := Lib.hid (HR2.out.below b3 (Nat.le_refl _))
    have HB3 := Lib.hid (HB2.out.trans (b3.mono HB2.out.size))
    clear b3 HR2 HB2
    go_wp2_with fail
    with_reducible refine (H3.out _ HR3.out).mono ?_
    rintro e w4 ⟨v4, rfl, o4, b4⟩
    have HB4 := Lib.hid (HB3.out.trans (b4.mono HB3.out.size))
    have HO4 := Lib.hid o4.rd
    obtain ⟨a4, c4, rfl, l4, m4, r4⟩ := o4.rd
    clear b4 HR3 HB3 o4
    rcases HCS.out with ⟨rfl, hK0, hh2, hsum⟩ | ⟨rfl, rfl, hh2⟩
    · have HSUM := Lib.hid hsum
      clear hsum
      have g0 : decide ((0 : Int) < (K.length : Int)) = true := by simpa using hK0
      have g0' : decide (0 < K.length) = true := by simpa using hK0
      go_wp2_with fail
      with_reducible refine (hasInt_any _ K 2 w4 HO4.out).mono ?_
      rintro e w' ⟨rfl, rfl⟩
      rw [hh2]
      go_wp2_with fail
      go_loop [10, 11] (fun x i => ∃ j : Nat, j ≤ K.length ∧ i = .int .i64 j ∧ x = .int .i64 (sumK (knownAt ks) j)) (fun _ i => K.length - (intOf i).toNat)
      case atStart => exact ⟨0, Nat.zero_le _, rfl, rfl⟩
      case round =>
        obtain ⟨j, hj, rfl, rfl⟩ := hrel
        by_cases hlt : j < K.length
        · obtain ⟨g, off, z, rfl, hg, x1, HZ⟩ := rd_at r4 j hlt
          have hz : z = knownAt ks j := by rw [HZ.out, HG.out j hlt]
          have hsb := HSU.out j (by omega)
          obtain ⟨hw, hs0, hs1⟩ := HSH.out j (by omega)
          have HSN : Hid (sumK (knownAt ks) (j + 1) = sumK (knownAt ks) j + knownAt ks j * 2 ^ j) := rfl
          rw [← hz] at hw hs0 hs1 HSN
          have hj5 : j ≤ 4 := by omega
          clear HZ hz r4
          generalize sumK (knownAt ks) j = S at *
          obtain ⟨Z, hZ⟩ : ∃ Z, Z = z * 2 ^ j := ⟨_, rfl⟩
          rw [← hZ] at hw hs0 hs1 HSN
          have HZ2 := Lib.hid hZ
          clear hZ
          go_wp2
          go_round
          case rel => exact ⟨j + 1, by omega, by go_num, by first | (rw [HSN.out, ← HZ2.out]; done) | (rw [HSN.out, ← HZ2.out]; congr 1; simp only [wrap64]; omega)⟩
          case measure => simp [intOf]; omega
        · have hj' : j = K.length := by omega
          subst hj'
          clear r4
          rw [HSUM.out]
          go_wp2
          go_ret
          exact ⟨rfl, HB4.out⟩
    · by_cases hK0 : 0 < K.length
      · have hhas := hh2 hK0
        have g0 : decide ((0 : Int) < (K.length : Int)) = true := by simpa using hK0
        have g0' : decide (0 < K.length) = true := by simpa using hK0
        go_wp2_with fail
        with_reducible refine (hasInt_any _ K 2 w4 HO4.out).mono ?_
        rintro e w' ⟨rfl, rfl⟩
        rw [hhas]
        go_wp2_with fail
        go_loop [10, 11] (fun x i => ∃ j : Nat, j ≤ K.length ∧ i = .int .i64 j ∧ x = .int .i64 (sumK (knownAt ks) j)) (fun _ i => K.length - (intOf i).toNat)
        case atStart => exact ⟨0, Nat.zero_le _, rfl, rfl⟩
        case round =>
          obtain ⟨j, hj, rfl, rfl⟩ := hrel
          by_cases hlt : j < K.length
          · obtain ⟨g, off, z, rfl, hg, x1, HZ⟩ := rd_at r4 j hlt
            have hz : z = knownAt ks j := by rw [HZ.out, HG.out j hlt]
            have hsb := HSU.out j (by omega)
            obtain ⟨hw, hs0, hs1⟩ := HSH.out j (by omega)
            have HSN : Hid (sumK (knownAt ks) (j + 1) = sumK (knownAt ks) j + knownAt ks j * 2 ^ j) := rfl
            rw [← hz] at hw hs0 hs1 HSN
            have hj5 : j ≤ 4 := by omega
            clear HZ hz r4
            generalize sumK (knownAt ks) j = S at *
            obtain ⟨Z, hZ⟩ : ∃ Z, Z = z * 2 ^ j := ⟨_, rfl⟩
            rw [← hZ] at hw hs0 hs1 HSN
            have HZ2 := Lib.hid hZ
            clear hZ
            go_wp2
            go_round
            case rel => exact ⟨j + 1, by omega, by go_num, by first | (rw [HSN.out, ← HZ2.out]; done) | (rw [HSN.out, ← HZ2.out]; congr 1; simp only [wrap64]; omega)⟩
            case measure => simp [intOf]; omega
          · have hj' : j = K.length := by omega
            subst hj'
            clear r4
            generalize sumK (knownAt ks) K.length = S at *
            go_wp2_with fail
            with_reducible refine (alive_true _).mono ?_
            rintro e w' ⟨rfl, rfl⟩
            go_wp2
            go_ret
            exact ⟨rfl, HB4.out⟩
      · have g0 : decide ((0 : Int) < (K.length : Int)) = false := by simpa using hK0
        have g0' : decide (0 < K.length) = false := by simpa using hK0
        go_wp2_with fail
        go_loop [10, 11] (fun x i => ∃ j : Nat, j ≤ K.length ∧ i = .int .i64 j ∧ x = .int .i64 (sumK (knownAt ks) j)) (fun _ i => K.length - (intOf i).toNat)
        case atStart => exact ⟨0, Nat.zero_le _, rfl, rfl⟩
        case round =>
          obtain ⟨j, hj, rfl, rfl⟩ := hrel
          by_cases hlt : j < K.length
          · obtain ⟨g, off, z, rfl, hg, x1, HZ⟩ := rd_at r4 j hlt
            have hz : z = knownAt ks j := by rw [HZ.out, HG.out j hlt]
            have hsb := HSU.out j (by omega)
            obtain ⟨hw, hs0, hs1⟩ := HSH.out j (by omega)
            have HSN : Hid (sumK (knownAt ks) (j + 1) = sumK (knownAt ks) j + knownAt ks j * 2 ^ j) := rfl
            rw [← hz] at hw hs0 hs1 HSN
            have hj5 : j ≤ 4 := by omega
            clear HZ hz r4
            generalize sumK (knownAt ks) j = S at *
            obtain ⟨Z, hZ⟩ : ∃ Z, Z = z * 2 ^ j := ⟨_, rfl⟩
            rw [← hZ] at hw hs0 hs1 HSN
            have HZ2 := Lib.hid hZ
            clear hZ
            go_wp2
            go_round
            case rel => exact ⟨j + 1, by omega, by go_num, by first | (rw [HSN.out, ← HZ2.out]; done) | (rw [HSN.out, ← HZ2.out]; congr 1; simp only [wrap64]; omega)⟩
            case measure => simp [intOf]; omega
          · have hj' : j = K.length := by omega
            subst hj'
            clear r4
            generalize sumK (knownAt ks) K.length = S at *
            go_wp2_with fail
            with_reducible refine (alive_true _).mono ?_
            rintro e w' ⟨rfl, rfl⟩
            go_wp2
            go_ret
            exact ⟨rfl, HB4.out⟩
end Go.Proofs.Ytajelgheccfcoaa
