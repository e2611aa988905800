/- ShotsIn, of the program and of the reference. -/
import Derived.Test.YtahamfgkcnepgaaShots
namespace Go.Proofs.Ytahamfgkcnepgaa
open Go.RowKit

/-- The sum of all rows. -/
def sumR (zss : List (List Int)) : Int := (zss.map sumI).foldl (· + ·) 0
theorem sumR_take (zss : List (List Int)) (k : Nat) (h : k < zss.length) : sumR (zss.take (k + 1)) = sumR (zss.take k) + sumI (zss.getD k []) := by
  unfold sumR
  rw [takeR_snoc zss k h, List.map_append, List.foldl_append]
  rfl
def shotsIn (rows cols : Int) (zss : List (List Int)) : Int := if shotsB rows cols zss then sumR zss else -1

theorem shotsB_yes {rows cols : Int} {zss : List (List Int)} (h : shotsB rows cols zss = true) : (1 ≤ rows ∧ rows ≤ 6) ∧ (1 ≤ cols ∧ cols ≤ 6) ∧ (zss.length : Int) = rows ∧ ∀ zs ∈ zss, (zs.length : Int) = cols ∧ ∀ z ∈ zs, 0 ≤ z ∧ z ≤ 1 := by
  simp only [shotsB, rowOk, inB, allB, Bool.and_eq_true, decide_eq_true_eq, List.all_eq_true] at h
  obtain ⟨h1, h2, h3, h4⟩ := h
  exact ⟨h1, h2, h3, h4⟩

theorem sumI_row {cols : Int} {zs : List Int} (h : (zs.length : Int) = cols ∧ ∀ z ∈ zs, 0 ≤ z ∧ z ≤ 1) : 0 ≤ sumI zs ∧ sumI zs ≤ cols := by
  have := sumI_bd 1 zs h.2
  omega
theorem sumR_bd {cols : Int} (zss : List (List Int)) (h : ∀ zs ∈ zss, (zs.length : Int) = cols ∧ ∀ z ∈ zs, 0 ≤ z ∧ z ≤ 1) (hc : 0 ≤ cols ∧ cols ≤ 6) : ∀ k, k ≤ zss.length → 0 ≤ sumR (zss.take k) ∧ sumR (zss.take k) ≤ 6 * k
  | 0, _ => by simp [sumR]
  | k + 1, hk => by
    have ih := sumR_bd zss h hc k (by omega)
    have := sumI_row (h (zss.getD k []) (by simp [List.getD, List.getElem?_eq_getElem (show k < zss.length by omega)]))
    rw [sumR_take zss k (by omega)]; omega

set_option maxRecDepth 100000 in
theorem l1Sum_any (v : Value) (zs : List Int) (M : Int) (w : World) (h : Rd w v zs) (hM : ∀ z ∈ zs, 0 ≤ z ∧ z ≤ M) (hb : M * zs.length ≤ 4611686018427387904) :
    Calls Try.prog 72 #[v] w fun e w' => e = .returned (.int .i64 (sumI zs)) ∧ w' = w := by
  obtain ⟨a1, c1, rfl, l1, m1, r1⟩ := h
  go_enter Try.func72, Try.ntmps72
  go_wp2
  go_loop [3, 4] (fun s i => ∃ k : Nat, k ≤ zs.length ∧ i = .int .i64 k ∧ s = .int .i64 (sumI (zs.take k))) (fun _ i => zs.length - (intOf i).toNat)
  case atStart => exact ⟨0, Nat.zero_le _, rfl, rfl⟩
  case round =>
    obtain ⟨k, hk, rfl, rfl⟩ := hrel
    by_cases hlt : k < zs.length
    · obtain ⟨g1, o1, z, rfl, hg1, x1, HZ⟩ := rd_at r1 k hlt
      have hs := sumI_take zs k hlt
      have b1 := sumI_bd M (zs.take (k + 1)) (fun z hz => hM z (List.mem_of_mem_take hz))
      have b2 : M * ((zs.take (k + 1)).length : Int) ≤ M * zs.length := by
        have hM0 : 0 ≤ M := by have := hM (zs[k]) (List.getElem_mem hlt); omega
        exact Int.mul_le_mul_of_nonneg_left (by simp; omega) hM0
      have hz0 := hM z (by rw [HZ.out]; simp [List.getD, List.getElem?_eq_getElem hlt])
      obtain ⟨s1, e1⟩ : ∃ s1, s1 = sumI (zs.take (k + 1)) := ⟨_, rfl⟩
      obtain ⟨s0, e0⟩ : ∃ s0, s0 = sumI (zs.take k) := ⟨_, rfl⟩
      have hb1 : -1 ≤ s0 + z ∧ s0 + z ≤ 4611686018427387904 ∧ s0 ≤ 4611686018427387904 ∧ -4611686018427387904 ≤ s0 := by
        have c0 := sumI_bd M (zs.take k) (fun z hz => hM z (List.mem_of_mem_take hz))
        rw [← e0] at c0 hs
        rw [← HZ.out] at hs
        omega
      rw [← e0]
      have HS := Lib.hid hs; have E0 := Lib.hid e0
      clear hs b1 b2 r1 e1 e0 hM
      go_wp2
      go_round
      case rel => exact ⟨k + 1, by omega, by go_num, by rw [HS.out, ← E0.out, ← HZ.out]⟩
      case measure => simp [intOf]; omega
    · have hk' : k = zs.length := by omega
      subst hk'
      rw [List.take_length]
      go_wp2
      go_ret
      exact ⟨rfl, rfl⟩

set_option maxHeartbeats 800000 in
set_option maxRecDepth 100000 in
theorem specShotsIn_any (rows cols : Int) (v : Value) (zss : List (List Int)) (w : World) (h : RdR w v zss) :
    Calls Try.prog 38 #[.int .i64 rows, .int .i64 cols, v] w fun e w' => e = .returned (.int .i64 (shotsIn rows cols zss)) ∧ w' = w := by
  have hR := h
  obtain ⟨a1, c1, rfl, l1, m1, r1⟩ := h
  go_enter Try.func38, Try.ntmps38
  go_wp2_with fail
  refine (specShotsOk_any rows cols _ zss _ hR).mono ?_
  rintro e w' ⟨rfl, rfl⟩
  rcases Bool.eq_false_or_eq_true (shotsB rows cols zss) with hb | hb
  · obtain ⟨hr, hc, hl, hrow⟩ := shotsB_yes hb
    have HS : Hid (shotsIn rows cols zss = sumR zss) := by unfold Hid shotsIn; rw [if_pos hb]
    rw [hb]
    have HROW := Lib.hid hrow
    have HBD := Lib.hid (sumR_bd zss hrow (by omega))
    subst hl
    clear hb hrow hR
    go_wp2
    go_loop [7, 8] (fun s i => ∃ k : Nat, k ≤ zss.length ∧ i = .int .i64 k ∧ s = .int .i64 (sumR (zss.take k))) (fun _ i => zss.length - (intOf i).toNat)
    case atStart => exact ⟨0, Nat.zero_le _, rfl, rfl⟩
    case round =>
      obtain ⟨k, hk, rfl, rfl⟩ := hrel
      by_cases hlt : k < zss.length
      · obtain ⟨g1, o1, A1, d1, zs, rfl, hg1, x1, y1, Z1⟩ := rdR_at r1 k hlt
        have hz := HROW.out zs (by rw [Z1.out]; simp [List.getD, List.getElem?_eq_getElem hlt])
        have hsz := sumI_row hz
        have HT := Lib.hid (sumR_take zss k hlt)
        have hb0 := HBD.out k hk
        obtain ⟨s0, e0⟩ : ∃ s0, s0 = sumR (zss.take k) := ⟨_, rfl⟩
        rw [← e0] at hb0 ⊢
        have E0 := Lib.hid e0
        have HZ2 := Lib.hid hz.2
        have hzl := hz.1
        clear e0 r1 hz
        go_wp2_with fail
        refine (l1Sum_any _ zs 1 _ y1 HZ2.out (by omega)).mono ?_
        rintro e w2 ⟨rfl, rfl⟩
        obtain ⟨s1, e1⟩ : ∃ s1, s1 = sumI zs := ⟨_, rfl⟩
        rw [← e1] at hsz ⊢
        have E1 := Lib.hid e1
        clear e1 y1
        go_wp2
        go_round
        case rel => exact ⟨k + 1, by omega, by go_num, by rw [HT.out, ← E0.out, ← Z1.out, ← E1.out]⟩
        case measure => simp [intOf]; omega
      · have hk' : k = zss.length := by omega
        subst hk'
        rw [List.take_length]
        go_wp2
        go_ret
        exact ⟨ret_int HS.out.symm, rfl⟩
  · have HS : Hid (shotsIn rows cols zss = -1) := by unfold Hid shotsIn; rw [if_neg (by simp [hb])]
    rw [hb]
    clear hb
    go_wp2
    go_ret
    exact ⟨ret_int HS.out.symm, rfl⟩

set_option maxHeartbeats 800000 in
set_option maxRecDepth 100000 in
theorem implShotsIn_any (rows cols : Int) (v : Value) (zss : List (List Int)) (w : World) (h : RdR w v zss) :
    Calls Try.prog 39 #[.int .i64 rows, .int .i64 cols, v] w fun e w' => e = .returned (.int .i64 (shotsIn rows cols zss)) ∧ Below w.heap.size w w' := by
  have hR := h
  obtain ⟨a1, c1, rfl, l1, m1, -⟩ := h
  go_enter Try.func39, Try.ntmps39
  go_wp2_with fail
  refine (implShotsOk_any rows cols _ zss _ hR).mono ?_
  rintro e w1 ⟨rfl, b1⟩
  have HB := Lib.hid b1
  have hR1 := hR.below b1
  clear b1 hR
  rcases Bool.eq_false_or_eq_true (shotsB rows cols zss) with hb | hb
  · obtain ⟨hr, hc, hl, hrow⟩ := shotsB_yes hb
    have HS : Hid (shotsIn rows cols zss = sumR zss) := by unfold Hid shotsIn; rw [if_pos hb]
    rw [hb]
    have HROW := Lib.hid hrow
    have HBD := Lib.hid (sumR_bd zss hrow (by omega))
    clear hb hrow
    obtain ⟨a2, c2, e9, l2, m2, r1⟩ := hR1
    injection e9 with e1 e2 e3
    subst e1 e3
    go_wp2
    go_loop [7, 17] (fun s i => ∃ k : Nat, k ≤ zss.length ∧ i = .int .i64 k ∧ s = .int .i64 (sumR (zss.take k))) (fun _ i => zss.length - (intOf i).toNat)
    case atStart => exact ⟨0, Nat.zero_le _, rfl, rfl⟩
    case round =>
      obtain ⟨k, hk, rfl, rfl⟩ := hrel
      by_cases hlt : k < zss.length
      · obtain ⟨g1, o1, A1, d1, zs, rfl, hg1, x1, y1, Z1⟩ := rdR_at r1 k hlt
        have hz := HROW.out zs (by rw [Z1.out]; simp [List.getD, List.getElem?_eq_getElem hlt])
        have hsz := sumI_row hz
        have HT := Lib.hid (sumR_take zss k hlt)
        have hb0 := HBD.out k hk
        obtain ⟨s0, e0⟩ : ∃ s0, s0 = sumR (zss.take k) := ⟨_, rfl⟩
        rw [← e0] at hb0 ⊢
        have E0 := Lib.hid e0
        have HZ2 := Lib.hid hz.2
        have hzl := hz.1
        clear e0 r1 hz
        go_wp2_with fail
        refine (total_any _ zs 1 _ y1 HZ2.out (by omega)).mono ?_
        rintro e w2 ⟨rfl, rfl⟩
        obtain ⟨s1, e1⟩ : ∃ s1, s1 = sumI zs := ⟨_, rfl⟩
        rw [← e1] at hsz ⊢
        have E1 := Lib.hid e1
        clear e1 y1
        go_wp2
        go_round
        case rel => exact ⟨k + 1, by omega, by go_num, by rw [HT.out, ← E0.out, ← Z1.out, ← E1.out]⟩
        case measure => simp [intOf]; omega
      · have hk' : k = zss.length := by omega
        subst hk'
        rw [List.take_length]
        go_wp2
        go_ret
        exact ⟨ret_int HS.out.symm, HB.out⟩
  · have HS : Hid (shotsIn rows cols zss = -1) := by unfold Hid shotsIn; rw [if_neg (by simp [hb])]
    rw [hb]
    clear hb
    go_wp2
    go_ret
    exact ⟨ret_int HS.out.symm, HB.out⟩
end Go.Proofs.Ytahamfgkcnepgaa
