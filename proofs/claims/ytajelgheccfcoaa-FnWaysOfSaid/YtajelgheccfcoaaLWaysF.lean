/- The walk of the law on WaysOf. -/
import Derived.Test.YtajelgheccfcoaaDrawSa
import Derived.Test.YtajelgheccfcoaaWaysQ
import Derived.Test.YtajelgheccfcoaaKnownI
import Derived.Test.YtajelgheccfcoaaWaysS
import Derived.Test.YtajelgheccfcoaaAlive
namespace Go.Proofs.Ytajelgheccfcoaa
open Go.RowKit

theorem syR_brief {p : Int} {ps : List Sy} (h : SyR p ps) : Brief ps := fun q hq => by have := (h.2.2.2 q hq).1; omega

set_option maxHeartbeats 6400000 in
set_option maxRecDepth 100000 in
theorem walk_FnWaysOf (a0 : Option Addr) (len0 cap0 : Nat) (z0 : List Int) (w : World) (w0 : IsRowB .u8 w a0 len0 cap0 z0) :
    Calls Try.prog 8 #[.slice a0 len0 cap0] w fun e w' => e = .returned (.bool true) ∧ Below w.heap.size w w' := by
  by_cases hlen : 1048576 < len0
  · go_enter Try.func8, Try.ntmps8
    go_wp2
    go_ret
    exact ⟨rfl, Below.refl _ _⟩
  · go_enter Try.func8, Try.ntmps8
    go_wp2_with fail
    with_reducible refine (DrawWaysOf_any _ _ _ _ _ w0).mono ?_
    rintro e w1 ⟨⟨p, v, ps, rfl, hs, ho⟩, b1⟩
    have HBF := Lib.hid (syR_brief hs)
    have HR1 := Lib.hid ho.rd
    have HB1 := Lib.hid b1
    have hl4 := hs.2.2.1
    clear ho b1 w0 hs
    have H1 : Hid (∀ W (hr : RdS W v ps), Calls Try.prog 20 #[.int .i64 p, v] W fun e w' => ∃ v', e = .returned v' ∧ Own w' W.heap.size w'.heap.size v' ((waysN p ps).map fun (k : Nat) => (k : Int)) ∧ Below W.heap.size W w') := fun W hr => by
      have := implWaysOf_any p v ps W HBF.out hr; rwa [waysI_N] at this
    have H2 : Hid (∀ W (hr : RdS W v ps), Calls Try.prog 19 #[.int .i64 p, v] W fun e w' => ∃ v', e = .returned v' ∧ Own w' W.heap.size w'.heap.size v' ((waysN p ps).map fun (k : Nat) => (k : Int)) ∧ Below W.heap.size W w') := fun W hr => by
      have := specWaysOf_any p v ps W HBF.out hr; rwa [waysI_N] at this
    have H3 : Hid (∀ v' W (hr : RdS W v' (ps.take (ps.length - 1))), Calls Try.prog 20 #[.int .i64 p, v'] W fun e w' => ∃ u, e = .returned u ∧ Own w' W.heap.size w'.heap.size u ((waysN p (ps.take (ps.length - 1))).map fun (k : Nat) => (k : Int)) ∧ Below W.heap.size W w') := fun v' W hr => by
      have := implWaysOf_any p v' _ W (fun q hq => HBF.out q (List.mem_of_mem_take hq)) hr; rwa [waysI_N] at this
    have H32 : Hid (∀ k ∈ waysN p ps, k < 32) := waysN_32
    have hln := length_waysN p ps
    have HWA : Hid (∀ (i : Nat) (hi : i < (waysN p ps).length) (j : Nat), j < ps.length → soB p (ps.getD j noSy).2 (waysN p ps)[i] = bitB (waysN p ps)[i] (ps.getD j noSy).1) := fun i hi j hj => way_at (List.getElem_mem hi) hj
    have HSO := Lib.hid (fun l k W (h : l.length < 4611686018427387904) => implSoFor_any p l k W h)
    have HFEW : Hid (sayB p ps = true → (waysN p ps).length ≤ (waysN p (ps.take (ps.length - 1))).length) := fun h => ways_fewer _ h
    have HNIL : Hid (sayB p ps = true → ps = [] → (waysN p ps).length = 2 ^ p.toNat) := fun h e => by subst e; exact ways_nil (sayB_yes h).1
    have HNO : Hid (sayB p ps = false → waysN p ps = []) := ways_none
    have HSAY : Hid (sayB p ps = true → (1 ≤ p ∧ p ≤ 5) ∧ ∀ q ∈ ps, 0 ≤ q.1 ∧ q.1 ≤ 4) := fun h => by
      obtain ⟨h1, h2, h3⟩ := sayB_yes h
      refine ⟨h1, fun q hq => ?_⟩
      obtain ⟨_, -, h4, h5, -⟩ := okB_yes (h3 q hq)
      omega
    generalize waysN p ps = ks at *
    generalize waysN p (ps.take (ps.length - 1)) = ks2 at *
    go_wp2_with fail
    with_reducible refine (H1.out _ HR1.out).mono ?_
    rintro e w2 ⟨v2, rfl, o2, b2⟩
    have HR2 := Lib.hid (HR1.out.below b2 (Nat.le_refl _))
    have HB2 := Lib.hid (HB1.out.trans (b2.mono HB1.out.size))
    have HO2 := Lib.hid o2
    clear b2 HR1 HB1 o2
    go_wp2_with fail
    with_reducible refine (H2.out _ HR2.out).mono ?_
    rintro e w3 ⟨v3, rfl, o3, b3⟩
    have HR3 := Lib.hid (HR2.out.below b3 (Nat.le_refl _))
    have HB3 := Lib.hid (HB2.out.trans (b3.mono HB2.out.size))
    have HO23 := Lib.hid (HO2.out.below b3 (Nat.le_refl _))
    have HO3 := Lib.hid o3.rd
    clear b3 HR2 HB2 HO2 o3
    go_wp2_with fail
    with_reducible refine (sameInts_true _ _ _ _ HO23.out.rd HO3.out).mono ?_
    rintro e w4 ⟨rfl, n4, rfl⟩
    have HR4 : Hid (RdS (w3.drewN n4) v ps) := HR3.out
    have HB4 := Lib.hid (below_drewN HB3.out n4)
    have HO4 : Hid (Rd (w3.drewN n4) v2 (ks.map fun (k : Nat) => (k : Int))) := HO23.out.rd
    generalize w3.drewN n4 = w4 at *
    clear HR3 HB3 HO23 HO3
    go_wp2_with fail
    with_reducible refine (specSayingsOk_any p v ps w4 HBF.out HR4.out).mono ?_
    rintro e w5 ⟨rfl, n5, rfl⟩
    have HR5 : Hid (RdS (w4.drewN n5) v ps) := HR4.out
    have HB5 := Lib.hid (below_drewN HB4.out n5)
    have HO5 : Hid (Rd (w4.drewN n5) v2 (ks.map fun (k : Nat) => (k : Int))) := HO4.out
    generalize w4.drewN n5 = w5 at *
    clear HR4 HB4 HO4
    obtain ⟨A2, C2, rfl, L2, M2, -⟩ := rd_nat HO5.out
    obtain ⟨A1, C1, rfl, L1, M1, -⟩ := HR5.out
    rcases Bool.eq_false_or_eq_true (sayB p ps) with hsb | hsb
    · rw [hsb]
      obtain ⟨hp, hby⟩ := HSAY.out hsb
      have HFW := Lib.hid (HFEW.out hsb)
      obtain ⟨P, rfl⟩ := Int.eq_ofNat_of_zero_le (show 0 ≤ p by omega)
      have hP5 : P ≤ 5 := by omega
      have HBY := Lib.hid hby
      have HNL : Hid (ps = [] → ks.length = 2 ^ P) := HNIL.out hsb
      have hwr : IntKind.i64.wrap ((2 : Int) ^ P) = ((2 ^ P : Nat) : Int) := shl_wrap ⟨P, by omega⟩
      obtain ⟨N, hN⟩ : ∃ N, N = 2 ^ P := ⟨_, rfl⟩
      rw [← hN] at hwr HNL
      clear hby hsb HNIL HFEW HSAY HNO H1 H2 hN
      go_wp2_with fail
      go_loopw [6] (fun x wr => ∃ i : Nat, i ≤ ks.length ∧ x = .int .i64 i ∧ Hid (Below w5.heap.size w5 wr)) (fun x _ => ks.length - (intOf x).toNat)
      case atStart => exact ⟨0, Nat.zero_le _, rfl, Below.refl _ _⟩
      case round =>
        obtain ⟨i, hi, rfl, hbi⟩ := hrel
        by_cases hlt : i < ks.length
        · go_wp2_with fail
          go_loopw [7] (fun x wr => ∃ j : Nat, j ≤ ps.length ∧ x = .int .i64 j ∧ Hid (Below w5.heap.size w5 wr)) (fun x _ => ps.length - (intOf x).toNat)
          case atStart => exact ⟨0, Nat.zero_le _, rfl, hbi⟩
          case round =>
            clear hbi
            obtain ⟨j, hj, rfl, hbj⟩ := hrel
            by_cases hlj : j < ps.length
            · obtain ⟨a', c', e1, -, -, r1⟩ := HR5.out.below hbj.out (Nat.le_refl _)
              injection e1 with e2 e3 e4
              subst e2 e4
              obtain ⟨g1, o1, x, l, e5, hg1, ⟨q0, q1⟩, Z1⟩ := rdS_at r1 j hlj
              subst e5
              obtain ⟨a', c', e1, -, -, r6⟩ := rd_nat (HO5.out.below hbj.out)
              injection e1 with e2 e3 e4
              subst e2 e4
              obtain ⟨g6, o6, e6, hg6, y6⟩ := r6 i hlt
              subst e6
              have hwa := HWA.out i hlt j hlj
              rw [← Z1.out] at hwa
              have hwa : soB (P : Int) l ks[i] = bitB ks[i] x := hwa
              obtain ⟨hx0, hx4⟩ := HBY.out _ (memS hlj Z1.out)
              have hx0 : 0 ≤ x := hx0
              have hx4 : x ≤ 4 := hx4
              obtain ⟨b, rfl⟩ := Int.eq_ofNat_of_zero_le hx0
              have hb4 : b ≤ 4 := by omega
              have hl62 : l.length < 4611686018427387904 := HBF.out _ (memS hlj Z1.out)
              have hk32 := H32.out _ (List.getElem_mem hlt)
              obtain ⟨D, hD⟩ : ∃ D, D = ks[i] / 2 ^ b := ⟨_, rfl⟩
              have hdiv : ((ks[i] : Nat) : Int) / 2 ^ b = (D : Int) := by rw [hD]; simp
              have hwa2 : soB (P : Int) l ks[i] = (D % 2 == 1) := by rw [hwa, hD]; rfl
              have HA := Lib.hid (fun W => HSO.out l ((ks[i] : Nat) : Int) W hl62)
              rw [hwa2] at HA
              have hD2 : D % 2 = 0 ∨ D % 2 = 1 := by omega
              clear hwa hwa2 hD r1 r6 Z1 hx0 hx4 hl62
              generalize ks[i] = k at *
              generalize tx l = S at *
              obtain h2 | h2 := hD2
              all_goals
                rw [h2] at HA
                have h2' : (D : Int) % 2 = _ := congrArg Int.ofNat h2
                have h2'' : Int.tmod (D : Int) 2 = _ := congrArg Int.ofNat h2
                go_wp2
                go_region_held3 (fun wx => wx.cell? ⟨g1, o1 + j * 2, none⟩ = some (.int .i64 (b : Int)) ∧ wx.cell? ⟨g1, o1 + j * 2 + 1, none⟩ = some (.string S) ∧ wx.cell? ⟨g6, o6 + i, none⟩ = some (.int .i64 (k : Nat)))
                  (first | exact ⟨(b8.cell (p := ⟨g1, o1 + j * 2, none⟩) hg1).trans q0, (b8.cell (p := ⟨g1, o1 + j * 2 + 1, none⟩) hg1).trans q1, (b8.cell (p := ⟨g6, o6 + i, none⟩) hg6).trans y6⟩ | exact ⟨q0, q1, y6⟩ | go_keep)
                  (first | (go_at_call 33; refine (HA.out _).mono ?_; rintro e w8 ⟨rfl, t8⟩; have b8 := t8.below0))
                have HB8 := Lib.hid ((hbj.out.drew).trans (b8.mono (by rw [World.size_drew]; exact hbj.out.size)))
                clear b8 t8 q0 q1 y6
                go_wp2
                go_roundw
                case rel => exact ⟨j + 1, by omega, by go_num, HB8.out⟩
                case measure => simp [intOf]; omega
            · have hj' : j = ps.length := by omega
              go_wp2
              go_roundw
              case rel => exact ⟨i + 1, by omega, by go_num, hbj⟩
              case measure => simp [intOf]; omega
        · have hi' : i = ks.length := by omega
          subst hi'
          have HBE := Lib.hid (HB5.out.trans (hbi.out.mono HB5.out.size))
          by_cases h0 : ps.length = 0
          · have hkn := HNL.out (List.length_eq_zero_iff.1 h0)
            have g0 : ((ps.length : Int) == 0) = true := by simp [h0]
            have g1 : ((ks.length : Int) == (N : Int)) = true := by rw [hkn]; simp
            clear hkn
            go_wp2
            go_ret
            exact ⟨rfl, HBE.out⟩
          · have g0 : ((ps.length : Int) == 0) = false := by rw [beq_eq_false_iff_ne]; omega
            obtain ⟨n, hn⟩ : ∃ n, ps.length = n + 1 := ⟨ps.length - 1, by omega⟩
            have hRT := rdS_take (n := ps.length - 1) (HR5.out.below hbi.out (Nat.le_refl _)) (by omega)
            have HRT := Lib.hid hRT
            have hfw := HFW.out
            clear hRT
            rw [show ps.length - 1 = n by omega] at HRT H3
            have hn' : ((ps.length : Int)) - 1 = (n : Int) := by omega
            go_wp2_with fail
            with_reducible refine (H3.out _ _ HRT.out).mono ?_
            rintro e w6 ⟨v6, rfl, o6, b6⟩
            obtain ⟨A6, C6, rfl, L6, M6, -⟩ := rd_nat o6.rd
            have HB6 := Lib.hid (HBE.out.trans (b6.mono HBE.out.size))
            have g6 : decide ((ks.length : Int) ≤ (ks2.length : Int)) = true := by simp; omega
            clear o6 b6
            go_wp2
            go_ret
            exact ⟨rfl, HB6.out⟩
    · rw [hsb]
      have hk0 := HNO.out hsb
      have g0 : ((ks.length : Int) == 0) = true := by simp [hk0]
      clear hk0
      go_wp2_with fail
      with_reducible refine (alive_true _).mono ?_
      rintro e w' ⟨rfl, rfl⟩
      go_wp2
      go_ret
      exact ⟨rfl, HB5.out⟩
end Go.Proofs.Ytajelgheccfcoaa
