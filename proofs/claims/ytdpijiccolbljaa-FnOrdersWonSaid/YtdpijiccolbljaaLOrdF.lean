/- The walk of the law on OrdersWon. -/
import Derived.Test.YtdpijiccolbljaaOrdW
import Derived.Test.YtdpijiccolbljaaOrdS
import Derived.Test.YtdpijiccolbljaaOrdL
import Derived.Test.YtdpijiccolbljaaDrawsBx
import Derived.Test.YtdpijiccolbljaaAlive
namespace Go.Proofs.Ytdpijiccolbljaa
open Go.RowKit

set_option maxHeartbeats 3200000 in
set_option maxRecDepth 100000 in
theorem walk_FnOrdersWon (a0 : Option Addr) (len0 cap0 : Nat) (z0 : List Int) (w : World) (w0 : IsRowB .u8 w a0 len0 cap0 z0) :
    Calls Try.prog 13 #[.slice a0 len0 cap0] w fun e w' => e = .returned (.bool true) ∧ Below w.heap.size w w' := by
  by_cases hlen : 1048576 < len0
  · go_enter Try.func13, Try.ntmps13
    go_wp2
    go_ret
    exact ⟨rfl, Below.refl _ _⟩
  · go_enter Try.func13, Try.ntmps13
    go_wp2_with fail
    with_reducible refine (DrawOrdersWon_any _ _ _ _ _ w0).mono ?_
    rintro e w1 ⟨⟨p, q, rfl, hp0, hp6⟩, b1⟩
    clear w0
    go_wp2_with fail
    with_reducible refine (implOrdersWon_any p q _).mono ?_
    rintro e w2 ⟨rfl, b2⟩
    have bb := b1.trans (b2.mono b1.size)
    clear b1 b2
    go_wp2_with fail
    with_reducible refine (specOrdersWon_any p q _).mono ?_
    rintro e w3 ⟨rfl, b3⟩
    have HB := Lib.hid (bb.trans (b3.mono bb.size))
    clear bb b3
    rcases Bool.eq_false_or_eq_true (ordB p q) with hb | hb
    rotate_left
    · have hl0 : ordI p q = -1 := by unfold ordI; rw [hb]; rfl
      rw [hl0]
      clear hb hl0
      go_wp2_with fail
      with_reducible refine (alive_true _).mono ?_
      rintro e w5 ⟨rfl, rfl⟩
      go_wp2
      go_ret
      exact ⟨rfl, HB.out⟩
    · have hpq : (1 ≤ p ∧ p ≤ 7) ∧ (0 ≤ q ∧ q ≤ 7) := by
        unfold ordB at hb
        rw [Bool.and_eq_true] at hb
        exact ⟨inB_in hb.1, inB_in hb.2⟩
      obtain ⟨m, rfl⟩ := Int.eq_ofNat_of_zero_le (a := p) (by omega)
      obtain ⟨T, rfl⟩ := Int.eq_ofNat_of_zero_le (a := q) (by omega)
      have hoi : ordI (m : Int) (T : Int) = (cntL (T : Int) (permsF m m []) : Int) := by unfold ordI; rw [hb]; rfl
      obtain ⟨l1, l2, l3⟩ := law_out (n := m) (t := T) (by omega) (by omega) (by omega)
      obtain ⟨C, hC⟩ : ∃ C, C = cntL (T : Int) (permsF m m []) := ⟨_, rfl⟩
      rw [← hC] at hoi l1 l2 l3
      rw [hoi]
      have hm6 : m ≤ 6 := by omega
      have hT7 : T ≤ 7 := by omega
      have hm1 : 1 ≤ m := by omega
      have HFL : Hid (∀ j, 1 + j ≤ m → factN (1 + j) ≤ 720) := fun j hj => fact_le (by omega)
      have HLL : Hid (∀ j, j ≤ 7 → lostF (factN m) T j ≤ 5000) := fun j hj => lost_le hm6 hT7 hj
      have HLAW := Lib.hid (And.intro l1 (And.intro l2 l3))
      clear hb hC hoi hpq l1 l2 l3 hp0 hp6
      go_wp2_with fail
      go_loop [6, 7] (fun s i => ∃ j : Nat, 1 + j ≤ m ∧ i = .int .i64 ((2 + j : Nat) : Int) ∧ s = .int .i64 (factN (1 + j) : Nat)) (fun _ i => m + 1 - (intOf i).toNat)
      case atStart => exact ⟨0, hm1, rfl, rfl⟩
      case round =>
        obtain ⟨j, hj, rfl, rfl⟩ := hrel
        by_cases hlt : 2 + j ≤ m
        · have hf := HFL.out j hj
          have hf2 := HFL.out (j + 1) (by omega)
          have e1 : (factN (1 + j) : Int) * ((2 + j : Nat) : Int) = (factN (1 + (j + 1)) : Nat) := by
            rw [show 1 + (j + 1) = (1 + j) + 1 by omega]
            show _ = (((factN (1 + j)) * (1 + j + 1) : Nat) : Int)
            rw [Int.natCast_mul, show 2 + j = 1 + j + 1 by omega]
          obtain ⟨G, hG⟩ : ∃ G, G = factN (1 + (j + 1)) := ⟨_, rfl⟩
          rw [← hG] at e1 hf2
          have HG := Lib.hid hG
          obtain ⟨F, hF⟩ : ∃ F, F = factN (1 + j) := ⟨_, rfl⟩
          rw [← hF] at e1 hf ⊢
          obtain ⟨k, hk⟩ : ∃ k, k = 2 + j := ⟨_, rfl⟩
          rw [← hk] at e1 hlt ⊢
          have HK := Lib.hid hk
          have hw : wrap64 ((F : Int) * (k : Int)) = (G : Int) := by rw [e1]; exact IntWalk.wrap64_in _ (by omega)
          clear hG hF hk e1
          go_wp2
          go_round
          case rel => exact ⟨j + 1, by have := HK.out; omega, by have := HK.out; congr 1; omega, by rw [← HG.out, hw]⟩
          case measure => simp [intOf]; omega
        · have hj' : 1 + j = m := by omega
          rw [hj']
          have hf := HFL.out j hj
          rw [hj'] at hf
          obtain ⟨F, hF⟩ : ∃ F, F = factN m := ⟨_, rfl⟩
          rw [← hF] at hf HLL HLAW ⊢
          have h2j : ((2 + j : Nat) : Int) = (m : Int) + 1 := by omega
          rw [h2j]
          have hm2 : ¬ (m : Int) + 1 ≤ m := by omega
          clear hF hj' h2j hlt hj HFL
          go_wp2_with fail
          go_loop [8, 9] (fun s i => ∃ j : Nat, j ≤ m - T ∧ i = .int .i64 ((T + 1 + j : Nat) : Int) ∧ s = .int .i64 (lostF F T j : Nat)) (fun _ i => m + 1 - (intOf i).toNat)
          case atStart => exact ⟨0, Nat.zero_le _, rfl, rfl⟩
          case round =>
            obtain ⟨j, hj, rfl, rfl⟩ := hrel
            by_cases hlt : T + 1 + j ≤ m
            · have hl := HLL.out j (by omega)
              have hl2 := HLL.out (j + 1) (by omega)
              have HE2 : Hid (((lostF F T (j + 1) : Nat) : Int) = (lostF F T j : Int) + (F : Int) / ((T + 1 + j : Nat) : Int)) := by
                show (((lostF F T j + F / (T + 1 + j) : Nat)) : Int) = _
                rw [Int.natCast_add]; rfl
              have hd0 : 0 ≤ (F : Int) / ((T + 1 + j : Nat) : Int) := Int.ediv_nonneg (by omega) (by omega)
              have hd1 : (F : Int) / ((T + 1 + j : Nat) : Int) ≤ 720 := Int.le_trans (Int.ediv_le_self _ (by omega)) (by omega)
              obtain ⟨k, hk⟩ : ∃ k, k = T + 1 + j := ⟨_, rfl⟩
              rw [← hk] at hlt HE2 hd0 hd1 ⊢
              have HK := Lib.hid hk
              have hk1 : 1 ≤ k := by omega
              generalize lostF F T j = S at *
              clear hk hl2
              go_wp2
              go_round
              case rel => exact ⟨j + 1, by have := HK.out; omega, by have := HK.out; congr 1; omega, by rw [HE2.out]⟩
              case measure => simp [intOf]; omega
            · have hj' : j = m - T := by omega
              subst hj'
              have hl := HLL.out (m - T) (by omega)
              obtain ⟨a1, a2, a3⟩ := HLAW.out
              have hk2 : ¬ ((T + 1 + (m - T) : Nat) : Int) ≤ m := by omega
              generalize ((T + 1 + (m - T) : Nat) : Int) = kk at *
              generalize lostF F T (m - T) = S at *
              have H1 : (decide ((T : Int) < (m : Int)) = true ∧ decide (T < m) = true) ∨ (decide ((T : Int) < (m : Int)) = false ∧ decide (T < m) = false ∧ ((C : Int) == (F : Int)) = true) := by
                by_cases h : T < m
                · exact .inl ⟨by simpa using h, by simpa using h⟩
                · refine .inr ⟨by simpa using h, by simpa using h, ?_⟩
                  rcases a1 with a1 | a1
                  · exact absurd a1 h
                  · rw [a1]; simp
              have H2 : (((T : Int) != 1) = true) ∨ (((T : Int) != 1) = false ∧ ((C : Int) == 1) = true) := by
                by_cases h : T = 1
                · refine .inr ⟨by rw [h]; rfl, ?_⟩
                  rcases a2 with a2 | a2
                  · exact absurd h a2
                  · rw [a2]; rfl
                · exact .inl (by rw [bne_iff_ne]; omega)
              have H3 : (decide (2 * (T : Int) < (m : Int)) = true ∧ decide (2 * T < m) = true) ∨ (decide (2 * (T : Int) < (m : Int)) = false ∧ decide (2 * T < m) = false ∧ ((C : Int) == (F : Int) - (S : Int)) = true) := by
                by_cases h : 2 * T < m
                · exact .inl ⟨by simp; omega, by simpa using h⟩
                · refine .inr ⟨by simp; omega, by simpa using h, ?_⟩
                  rcases a3 with a3 | a3
                  · exact absurd a3 h
                  · rw [beq_iff_eq]; omega
              have q4 : wrap64 (2 * (T : Int)) = 2 * (T : Int) := IntWalk.wrap64_in _ (by omega)
              have q5 : wrap64 ((F : Int) - (S : Int)) = (F : Int) - (S : Int) := IntWalk.wrap64_in _ (by omega)
              clear a1 a2 a3 HLAW HLL
              rcases H1 with ⟨h1, g1⟩ | ⟨h1, g1, e1⟩
              · rcases H2 with h2 | ⟨h2, e2⟩
                · rcases H3 with ⟨h3, g3⟩ | ⟨h3, g3, e3⟩
                  · go_wp2
                    go_ret
                    exact ⟨rfl, HB.out⟩
                  · go_wp2
                    go_ret
                    exact ⟨rfl, HB.out⟩
                · rcases H3 with ⟨h3, g3⟩ | ⟨h3, g3, e3⟩
                  · go_wp2
                    go_ret
                    exact ⟨rfl, HB.out⟩
                  · go_wp2
                    go_ret
                    exact ⟨rfl, HB.out⟩
              · rcases H2 with h2 | ⟨h2, e2⟩
                · rcases H3 with ⟨h3, g3⟩ | ⟨h3, g3, e3⟩
                  · go_wp2
                    go_ret
                    exact ⟨rfl, HB.out⟩
                  · go_wp2
                    go_ret
                    exact ⟨rfl, HB.out⟩
                · rcases H3 with ⟨h3, g3⟩ | ⟨h3, g3, e3⟩
                  · go_wp2
                    go_ret
                    exact ⟨rfl, HB.out⟩
                  · go_wp2
                    go_ret
                    exact ⟨rfl, HB.out⟩
end Go.Proofs.Ytdpijiccolbljaa
