/- The walk of the law on ShotsIn. -/
import Derived.Test.YtahamfgkcnepgaaShotsIn
import Derived.Test.YtahamfgkcnepgaaDrawSt
import Derived.Test.YtahamfgkcnepgaaAlive
import Derived.Deep.RegionHeld3
namespace Go.Proofs.Ytahamfgkcnepgaa
open Go.RowKit

set_option maxRecDepth 100000 in
theorem sumOf_any (v : Value) (zs : List Int) (M : Int) (w : World) (h : Rd w v zs) (hM : ∀ z ∈ zs, 0 ≤ z ∧ z ≤ M) (hb : M * zs.length ≤ 4611686018427387904) :
    Calls Try.prog 51 #[v] w fun e w' => e = .returned (.int .i64 (sumI zs)) ∧ w' = w := by
  obtain ⟨a1, c1, rfl, l1, m1, r1⟩ := h
  go_enter Try.func51, Try.ntmps51
  go_wp2
  go_loop [3, 4] (fun s i => ∃ k : Nat, k ≤ zs.length ∧ i = .int .i64 k ∧ s = .int .i64 (sumI (zs.take k))) (fun _ i => zs.length - (intOf i).toNat)
  case atStart => exact ⟨0, Nat.zero_le _, rfl, rfl⟩
  case round =>
    obtain ⟨k, hk, rfl, rfl⟩ := hrel
    by_cases hlt : k < zs.length
    · obtain ⟨g1, o1, z, rfl, hg1, x1, HZ⟩ := rd_at r1 k hlt
      have hs := sumI_take zs k hlt
      have b1 := sumI_bd M (zs.take (k + 1)) (fun z hz => hM z (List.mem_of_mem_take hz))
      have b2 : M * ((zs.take (k + 1)).length : Int) ≤ M * zs.length := by
        have hM0 : 0 ≤ M := by have := hM (zs[k]) (List.getElem_mem hlt); omega
        exact Int.mul_le_mul_of_nonneg_left (by simp; omega) hM0
      have hz0 := hM z (by rw [HZ.out]; simp [List.getD, List.getElem?_eq_getElem hlt])
      obtain ⟨s1, e1⟩ : ∃ s1, s1 = sumI (zs.take (k + 1)) := ⟨_, rfl⟩
      obtain ⟨s0, e0⟩ : ∃ s0, s0 = sumI (zs.take k) := ⟨_, rfl⟩
      have hb1 : -1 ≤ s0 + z ∧ s0 + z ≤ 4611686018427387904 ∧ s0 ≤ 4611686018427387904 ∧ -4611686018427387904 ≤ s0 := by
        have c0 := sumI_bd M (zs.take k) (fun z hz => hM z (List.mem_of_mem_take hz))
        rw [← e0] at c0 hs
        rw [← HZ.out] at hs
        omega
      rw [← e0]
      have HS := Lib.hid hs; have E0 := Lib.hid e0
      clear hs b1 b2 r1 e1 e0 hM
      go_wp2
      go_round
      case rel => exact ⟨k + 1, by omega, by go_num, by rw [HS.out, ← E0.out, ← HZ.out]⟩
      case measure => simp [intOf]; omega
    · have hk' : k = zs.length := by omega
      subst hk'
      rw [List.take_length]
      go_wp2
      go_ret
      exact ⟨rfl, rfl⟩


set_option maxRecDepth 100000 in
theorem DrawShotsIn_any (a : Option Addr) (len cap : Nat) (bs : List Int) (w : World) (h : IsRowB .u8 w a len cap bs) :
    Calls Try.prog 50 #[.slice a len cap] w fun e w' => (∃ r c v zss, e = .returned (.tuple #[.int .i64 r, .int .i64 c, v]) ∧ (0 ≤ r ∧ r ≤ 7) ∧ (0 ≤ c ∧ c ≤ 6) ∧ RdR w' v zss ∧ zss.length ≤ 6 ∧ ∀ zs ∈ zss, zs.length ≤ 6 ∧ ∀ z ∈ zs, 0 ≤ z ∧ z ≤ 1) ∧ Below w.heap.size w w' := by
  go_enter Try.func50, Try.ntmps50
  go_wp2_with fail
  refine (open_any _ _ _ bs _ h).mono ?_
  rintro e w1 ⟨⟨g, rfl, hg1, hg2, hr⟩, b1⟩
  go_wp2_with fail
  refine (shots_any g 0 9 _ hr (by omega)).mono ?_
  rintro e w2 ⟨⟨r, c, l, v, zss, rfl, h1, h2, h3, h4, h5, h6⟩, -, t2⟩
  have hb := below_turned b1 t2 hg1 b1.size
  clear t2 b1 hr
  go_wp2
  go_ret3
  exact ⟨⟨_, _, _, _, rfl, h1, h2, h4, h5, h6⟩, hb⟩

theorem rdR_take {w : World} {a : Option Addr} {c : Nat} {zss : List (List Int)} (h : RdR w (.slice a zss.length c) zss) (k : Nat) (hk : k ≤ zss.length) : RdR w (.slice a k c) (zss.take k) := by
  obtain ⟨a', c', e, h1, h2, h3⟩ := h
  injection e with e1 e2 e3
  subst e1 e3
  have hl : (zss.take k).length = k := by rw [List.length_take]; omega
  refine ⟨_, _, by rw [hl], by omega, h2, fun h0 => ?_⟩
  obtain ⟨g, off, e, hg, hc⟩ := h3 (by omega)
  refine ⟨g, off, e, hg, fun j hj => ?_⟩
  obtain ⟨u, hu, hr⟩ := hc j (by omega)
  refine ⟨u, hu, ?_⟩
  have : (zss.take k).getD j [] = zss.getD j [] := by
    simp only [List.getD]
    rw [List.getElem?_take_of_lt (by omega)]
  rw [this]; exact hr

theorem shots_less {cols : Int} {zss : List (List Int)} {m : Nat} (h : shotsB (zss.length : Int) cols zss = true) (hm : zss.length = m + 1) (h0 : 1 ≤ m) : shotsIn (m : Int) cols (zss.take m) = sumR zss - sumI (zss.getD m []) := by
  obtain ⟨h1, h2, h3, h4⟩ := shotsB_yes h
  have hl : (zss.take m).length = m := by rw [List.length_take]; omega
  have hb : shotsB (m : Int) cols (zss.take m) = true := by
    simp only [shotsB, rowOk, inB, allB, Bool.and_eq_true, decide_eq_true_eq, List.all_eq_true]
    exact ⟨by omega, h2, by rw [hl], fun zs hz => h4 zs (List.mem_of_mem_take hz)⟩
  unfold shotsIn
  rw [if_pos hb]
  have := sumR_take zss m (by omega)
  rw [← hm, List.take_length] at this
  omega

set_option maxHeartbeats 1600000 in
set_option maxRecDepth 100000 in
theorem walk_FnShotsIn (a0 : Option Addr) (len0 cap0 : Nat) (z0 : List Int) (w : World) (w0 : IsRowB .u8 w a0 len0 cap0 z0) :
    Calls Try.prog 14 #[.slice a0 len0 cap0] w fun e w' => e = .returned (.bool true) ∧ Below w.heap.size w w' := by
  by_cases hlen : 1048576 < len0
  · go_enter Try.func14, Try.ntmps14
    go_wp2
    go_ret
    exact ⟨rfl, Below.refl _ _⟩
  · go_enter Try.func14, Try.ntmps14
    go_wp2_with fail
    refine (DrawShotsIn_any _ _ _ _ _ w0).mono ?_
    rintro e w1 ⟨⟨r, c, v, zss, rfl, hr, hc, hR, hz6, hbits⟩, b1⟩
    clear w0
    go_wp2_with fail
    refine (implShotsIn_any r c v zss _ hR).mono ?_
    rintro e w2 ⟨rfl, b2⟩
    have hR2 := hR.below b2
    have bb := b1.trans (b2.mono b1.size)
    clear b1 b2 hR
    obtain ⟨n, hn⟩ : ∃ n, n = shotsIn r c zss := ⟨_, rfl⟩
    rw [← hn]
    have HN := Lib.hid hn
    clear hn
    go_wp2_with fail
    refine (specShotsIn_any r c v zss _ hR2).mono ?_
    rintro e w3 ⟨rfl, rfl⟩
    rw [← HN.out]
    have HB := Lib.hid bb
    have hsz := bb.size
    clear bb
    rcases Bool.eq_false_or_eq_true (shotsB r c zss) with hb | hb
    · obtain ⟨h1, h2, h3, h4⟩ := shotsB_yes hb
      have hnn : n = sumR zss := by rw [HN.out]; unfold shotsIn; rw [if_pos hb]
      have hbd := sumR_bd zss h4 (by omega) zss.length (Nat.le_refl _)
      rw [List.take_length, ← hnn] at hbd
      have hprod : n ≤ r * c := by
        have key : ∀ k, k ≤ zss.length → sumR (zss.take k) ≤ (k : Int) * c := fun k => by
          induction k with
          | zero => intro _; simp [sumR]
          | succ k ih =>
            intro hk
            have i1 := ih (by omega)
            have i2 := sumI_row (h4 (zss.getD k []) (by simp [List.getD, List.getElem?_eq_getElem (show k < zss.length by omega)]))
            rw [sumR_take zss k (by omega), Int.natCast_add, Int.add_mul]; omega
        have := key zss.length (Nat.le_refl _)
        rw [List.take_length, ← hnn, h3] at this; exact this
      have hp2 : 0 ≤ r * c ∧ r * c ≤ 36 := by
        have : r * c ≤ 6 * 6 := Int.mul_le_mul (by omega) (by omega) (by omega) (by omega)
        exact ⟨Int.mul_nonneg (by omega) (by omega), by omega⟩
      have hw : wrap64 (r * c) = r * c := IntWalk.wrap64_in _ (by omega)
      obtain ⟨P, hP⟩ : ∃ P, P = r * c := ⟨_, rfl⟩
      rw [← hP] at hprod hp2 hw
      obtain ⟨m, hm⟩ : ∃ m, zss.length = m + 1 := ⟨zss.length - 1, by omega⟩
      obtain rfl : r = ((m + 1 : Nat) : Int) := by omega
      have HL : 1 ≤ m → shotsIn (m : Int) c (zss.take m) = n - sumI (zss.getD m []) := fun h0 => by
        rw [hnn]; exact shots_less (by rw [hm]; exact hb) hm h0
      have HLH := Lib.hid HL
      have hRH := Lib.hid hR2
      obtain ⟨a, cp, rfl, l1, m1, r1⟩ := hR2
      obtain ⟨g1, o1, A1, d1, zs, rfl, hg1, x1, y1, Z1⟩ := rdR_at r1 m (by omega)
      have hzs := h4 zs (by rw [Z1.out]; simp [List.getD, List.getElem?_eq_getElem (show m < zss.length by omega)])
      have H4 := Lib.hid hzs.2
      have hzl := hzs.1
      clear hb h4 hnn hbits HL r1 hzs
      rw [hm] at l1
      have hP1 : P = ((m : Int) + 1) * c := by rw [hP]; simp
      have hw1 : wrap64 (((m : Int) + 1) * c) = P := by rw [← hP1]; exact IntWalk.wrap64_in _ (by omega)
      clear hw hP
      by_cases hm0 : m = 0
      · subst hm0
        have hPc : P = c := by rw [hP1]; simp
        subst hPc
        clear hw1 hP1
        go_wp2
        go_quiet (fail)
        go_wp2
        go_ret
        exact ⟨rfl, below_drewN HB.out _⟩
      · have hRT := rdR_take hRH.out m (by omega)
        have hm2 : ¬ (m : Int) + 1 < 2 := by omega
        have hsum := sumI_bd 1 zs H4.out
        have HT := Lib.hid (fun W (h : Rd W (.slice A1 zs.length d1) zs) => sumOf_any (.slice A1 zs.length d1) zs 1 W h H4.out (by omega))
        have hsv : shotsIn (m : Int) c (zss.take m) = n - sumI zs := by rw [HLH.out (by omega), ← Z1.out]
        have HSV := Lib.hid hsv
        clear hsv HLH
        have hw2 : IntKind.i64.wrap (((m : Int) + 1) * c) = P := by rw [IntKind.wrap_i64] at *; rw [← hP1]; omega
        have hd1 : decide (n ≤ IntKind.i64.wrap (((m : Int) + 1) * c)) = true := by rw [hw2]; simpa using hprod
        have hw3 : IntKind.i64.wrap ((m : Int) + 1 - 1) = m := by rw [IntKind.wrap_i64]; omega
        have hw4 : IntKind.i64.wrap (m : Int) = m := by rw [IntKind.wrap_i64]; omega
        have hmc : (m : Int) ≤ (cp : Int) := by omega
        have hm00 : (0 : Int) ≤ (m : Int) := by omega
        have hlt1 : (m : Int) < (m : Int) + 1 := by omega
        have hlt2 : (m : Int) < ((m + 1 : Nat) : Int) := by omega
        have hw5 : IntKind.i64.wrap (n - sumI zs) = n - sumI zs := by rw [IntKind.wrap_i64]; omega
        have hd2 : decide ((m : Int) + 1 < 2) = false := by simp; omega
        clear hm2 hP1
        go_wp2
        go_region_held3 (fun wx => wx.cell? ⟨g1, o1 + m, none⟩ = some (.slice A1 zs.length d1)) (first | exact (b8.cell (p := ⟨g1, o1 + m, none⟩) hg1).trans x1 | exact x1 | go_keep)
          (first | (go_at_call 39; refine (implShotsIn_any _ _ _ (zss.take m) _ (by exact hRT)).mono ?_; rintro e w8 ⟨rfl, b8⟩; rw [HSV.out]) | (go_at_call 51; refine (HT.out _ (Rd.below (by exact y1) b8)).mono ?_; rintro e w9 ⟨rfl, rfl⟩))
        have HF := Lib.hid ((HB.out.drew).trans (b8.mono (by rw [World.size_drew]; exact hsz)))
        clear b8
        go_wp2
        go_ret
        exact ⟨rfl, HF.out⟩
    · have hnn : n = -1 := by rw [HN.out]; unfold shotsIn; rw [if_neg (by simp [hb])]
      subst hnn
      clear hb
      go_wp2_with fail
      refine (alive_true _).mono ?_
      rintro e w5 ⟨rfl, rfl⟩
      go_wp2
      go_ret
      exact ⟨rfl, HB.out⟩
end Go.Proofs.Ytahamfgkcnepgaa
