/- The specification's reading: how many knights. -/
import Derived.Test.YtajelgheccfcoaaRead
namespace Go.Proofs.Ytajelgheccfcoaa
open Go.RowKit

def cntN (k : Nat) : Nat → Nat
  | 0 => 0
  | t + 1 => cntN k t + k / 2 ^ t % 2
theorem cntN_le (k t : Nat) : cntN k t ≤ t := by
  induction t with
  | zero => exact Nat.le_refl _
  | succ t ih => simp only [cntN]; omega
theorem cntN_pop {p k : Nat} (hp : p ≤ 5) (hk : k < 2 ^ p) : cntN k p = popN k := by
  obtain rfl | rfl | rfl | rfl | rfl | rfl : p = 0 ∨ p = 1 ∨ p = 2 ∨ p = 3 ∨ p = 4 ∨ p = 5 := by omega
  all_goals
    simp only [cntN, popN] at *
    omega

set_option maxHeartbeats 6400000 in
set_option maxRecDepth 100000 in
theorem read_num (p n k i : Nat) (l : List UInt8) (c : UInt8) (r : List UInt8) (W : World) (hp : p ≤ 5) (hk : k < 2 ^ p) (hl : l.length < 4611686018427387904) (hd : l.drop i = c :: r) (hc : c.toNat = 35) :
    Calls Try.prog 58 #[.int .i64 (p : Int), .string (tx l), .int .i64 (i : Int), .int .i64 (k : Int)] W (ReadPost p (n + 1) k i l W) := by
  obtain ⟨h1, h2, h3, h4⟩ := tx_at hd
  have hsz : (tx l).size = l.length := tx_size l
  have hi : i < l.length := by rw [tx_size] at h1; exact h1
  have HR : Hid (rd p (n + 1) (l.drop i) = (if 48 ≤ Go.Proofs.Ytajelgheccfcoaa.hd r ∧ Go.Proofs.Ytajelgheccfcoaa.hd r ≤ 53 then some (.num (Go.Proofs.Ytajelgheccfcoaa.hd r - 48)) else none, r.tail)) := by
    unfold Hid
    rw [hd]
    simp only [rd]
    rw [if_neg (by omega), if_neg (by omega), if_pos hc]
  have hg : decide (((tx l).size : Int) ≤ (i : Int)) = false := by simp; omega
  have hg' : decide ((tx l).size ≤ i) = false := by simp; omega
  have hcc : ∀ h' : i < (tx l).size, ((tx l)[i].toNat) = 35 := fun h' => by rw [h4]; exact hc
  have hi62 : i + 1 < 4611686018427387905 := by omega
  by_cases hr : i + 1 < l.length
  · have g1 : decide (((tx l).size : Int) ≤ (i : Int) + 1) = false := by rw [hsz]; simp; omega
    obtain ⟨cd, rr, hcd⟩ : ∃ cd rr, l.drop (i + 1) = cd :: rr := by rw [List.drop_eq_getElem_cons hr]; exact ⟨_, _, rfl⟩
    obtain ⟨t1, t2, t3, t4⟩ := tx_at hcd
    obtain ⟨D, hD⟩ : ∃ D : Nat, D = cd.toNat := ⟨_, rfl⟩
    have t5 : ∀ h' : i + 1 < (tx l).size, ((tx l)[i + 1].toNat) = D := fun h' => by rw [t4]; exact hD.symm
    have hHD : Go.Proofs.Ytajelgheccfcoaa.hd r = D := by rw [h3, hcd, hD]; rfl
    have HLEN : Hid (l.length - r.tail.length = i + 2) := by unfold Hid; rw [h3]; simp; omega
    have HP := Lib.hid (cntN_pop hp hk)
    have hk32 : k < 32 := Nat.lt_of_lt_of_le hk (by calc 2 ^ p ≤ 2 ^ 5 := Nat.pow_le_pow_right (by omega) hp
                                                      _ = 32 := by decide)
    rw [hHD] at HR
    clear hc hd h3 h4 hi hl hsz hr hcd hD t3 t4 hHD hk
    generalize tx l = S at *
    by_cases h48 : D < 48
    · have d1 : decide ((D : Int) < 48) = true := by simp; omega
      have d1' : decide (D < 48) = true := by simp; omega
      rw [if_neg (by omega)] at HR
      clear h48
      go_enter Try.func58, Try.ntmps58
      go_wp2
      refine bodyPost_ret (v := .tuple #[.bool false, .int .i64 (-1)]) (by simp [results, Try.results58, go_sem]) rfl ?_
      exact ⟨_, _, rfl, by rw [HR.out], 0, rfl⟩
    · have d1 : decide ((D : Int) < 48) = false := by simp; omega
      have d1' : decide (D < 48) = false := by simp; omega
      by_cases h53 : 53 < D
      · have d2 : decide ((53 : Int) < (D : Int)) = true := by simp; omega
        have d2' : decide (53 < D) = true := by simp; omega
        rw [if_neg (by omega)] at HR
        clear h48 h53
        go_enter Try.func58, Try.ntmps58
        go_wp2
        refine bodyPost_ret (v := .tuple #[.bool false, .int .i64 (-1)]) (by simp [results, Try.results58, go_sem]) rfl ?_
        exact ⟨_, _, rfl, by rw [HR.out], 0, rfl⟩
      · have d2 : decide ((53 : Int) < (D : Int)) = false := by simp; omega
        have d2' : decide (53 < D) = false := by simp; omega
        rw [if_pos (by omega)] at HR
        obtain ⟨d, hd⟩ : ∃ d, D = 48 + d := ⟨D - 48, by omega⟩
        have w1 : IntKind.u8.wrap ((D : Int) - 48) = (d : Int) := by rw [IntKind.wrap_u8]; omega
        have w2 : IntKind.i64.wrap (d : Int) = (d : Int) := by rw [IntKind.wrap_i64]; omega
        have HDD : Hid (D - 48 = d) := by unfold Hid; omega
        clear h48 h53 hd
        go_enter Try.func58, Try.ntmps58
        go_wp2_with fail
        go_loop [13, 14] (fun a j => ∃ t : Nat, t ≤ p ∧ a = .int .i64 (cntN k t : Nat) ∧ j = .int .i64 t) (fun a j => p - (intOf j).toNat)
        case atStart => exact ⟨0, Nat.zero_le _, rfl, rfl⟩
        case round =>
          obtain ⟨t, ht, rfl, rfl⟩ := hrel
          by_cases hlt : t < p
          · have hle := cntN_le k t
            have ht5 : t < 5 := by omega
            have HN : Hid (cntN k (t + 1) = cntN k t + k / 2 ^ t % 2) := rfl
            generalize cntN k t = N at *
            obtain rfl | rfl | rfl | rfl | rfl : t = 0 ∨ t = 1 ∨ t = 2 ∨ t = 3 ∨ t = 4 := by omega
            all_goals
              go_wp2
              first
                | exact ⟨⟨1, by omega, by rw [show cntN k 1 = N + k / 2 ^ 0 % 2 from HN.out]; simp, rfl⟩, by show p - 1 < p - 0; omega⟩
                | exact ⟨⟨2, by omega, by rw [show cntN k 2 = N + k / 2 ^ 1 % 2 from HN.out]; simp, rfl⟩, by show p - 2 < p - 1; omega⟩
                | exact ⟨⟨3, by omega, by rw [show cntN k 3 = N + k / 2 ^ 2 % 2 from HN.out]; simp, rfl⟩, by show p - 3 < p - 2; omega⟩
                | exact ⟨⟨4, by omega, by rw [show cntN k 4 = N + k / 2 ^ 3 % 2 from HN.out]; simp, rfl⟩, by show p - 4 < p - 3; omega⟩
                | exact ⟨⟨5, by omega, by rw [show cntN k 5 = N + k / 2 ^ 4 % 2 from HN.out]; simp, rfl⟩, by show p - 5 < p - 4; omega⟩
          · have htp : t = p := by omega
            subst htp
            go_wp2
            refine bodyPost_ret (v := .tuple #[.bool (((cntN k t : Nat) : Int) == (d : Int)), .int .i64 ((i : Int) + 2)]) (by simp [results, Try.results58, go_sem]) rfl ?_
            refine ⟨_, _, rfl, ?_, 0, rfl⟩
            rw [HR.out]
            refine ⟨?_, by show (i : Int) + 2 = ((l.length - r.tail.length : Nat) : Int); rw [HLEN.out]; rfl⟩
            show ((((cntN k t : Nat) : Int) == (d : Int))) = (popN k == D - 48)
            rw [HP.out, HDD.out, Bool.eq_iff_iff]; simp; omega
  · have g1 : decide (((tx l).size : Int) ≤ (i : Int) + 1) = true := by rw [hsz]; simp; omega
    have HR2 : Hid ((rd p (n + 1) (l.drop i)).1 = none) := by
      unfold Hid; rw [HR.out, h3, List.drop_eq_nil_iff.2 (by omega)]; rfl
    clear hc hd h3 h4 hi hl hsz hr
    generalize tx l = S at *
    go_enter Try.func58, Try.ntmps58
    go_wp2
    refine bodyPost_ret (v := .tuple #[.bool false, .int .i64 (-1)]) (by simp [results, Try.results58, go_sem]) rfl ?_
    exact ⟨_, _, rfl, by rw [HR2.out], 0, rfl⟩
end Go.Proofs.Ytajelgheccfcoaa
