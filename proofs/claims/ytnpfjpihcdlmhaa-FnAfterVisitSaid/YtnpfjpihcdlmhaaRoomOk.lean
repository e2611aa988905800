/- Whether a room is one: of the program and of the reference; rooms copied in. -/
import Derived.Test.YtnpfjpihcdlmhaaVis
import Derived.Test.YtnpfjpihcdlmhaaRoom
namespace Go.Proofs.Ytnpfjpihcdlmhaa
open Go.RowKit

def roomB (sw cnt : Int) (zs : List Int) : Bool :=
  inB 1 5 (zs.length : Int) && (allB 0 1 zs && (inB 0 1 sw && (decide (0 ≤ cnt) && (decide (zs.getD 0 0 = 0) && decide (sumI zs = cnt + sw)))))

theorem roomB_yes {sw cnt : Int} {zs : List Int} (h : roomB sw cnt zs = true) :
    1 ≤ zs.length ∧ zs.length ≤ 5 ∧ (∀ z ∈ zs, 0 ≤ z ∧ z ≤ 1) ∧ 0 ≤ sw ∧ sw ≤ 1 ∧ 0 ≤ cnt ∧ zs.getD 0 0 = 0 ∧ sumI zs = cnt + sw := by
  simp only [roomB, inB, allB, Bool.and_eq_true, decide_eq_true_eq, List.all_eq_true] at h
  obtain ⟨⟨h1, h2⟩, h3, ⟨h4, h5⟩, h6, h7, h8⟩ := h
  exact ⟨by omega, by omega, fun z hz => h3 z hz, h4, h5, h6, h7, h8⟩
theorem roomB_mk {sw cnt : Int} {zs : List Int} (h1 : 1 ≤ zs.length) (h2 : zs.length ≤ 5) (h3 : ∀ z ∈ zs, 0 ≤ z ∧ z ≤ 1) (h4 : 0 ≤ sw) (h5 : sw ≤ 1) (h6 : 0 ≤ cnt) (h7 : zs.getD 0 0 = 0) (h8 : sumI zs = cnt + sw) : roomB sw cnt zs = true := by
  simp only [roomB, inB, allB, Bool.and_eq_true, decide_eq_true_eq, List.all_eq_true]
  exact ⟨⟨by omega, by omega⟩, fun z hz => h3 z hz, ⟨h4, h5⟩, h6, h7, h8⟩
theorem allB_bd {zs : List Int} (h : allB 0 1 zs = true) : 0 ≤ sumI zs ∧ sumI zs ≤ zs.length := by
  have := sumI_bd 1 zs (fun z hz => inB_in (List.all_eq_true.1 h z hz))
  omega

set_option maxRecDepth 100000 in
theorem specRoomOk_any (sw cnt : Int) (v : Value) (zs : List Int) (w : World) (h : Rd w v zs) (hc : -9223372036854775808 ≤ cnt ∧ cnt ≤ 9223372036854775807) (hl : zs.length ≤ 1048576) :
    Calls Try.prog 35 #[.agg #[.int .i64 sw, .int .i64 cnt, v]] w fun e w' => e = .returned (.bool (roomB sw cnt zs)) ∧ Below w.heap.size w w' := by
  have hb1 : Below w.heap.size w (w.alloc (.cells #[.int .i64 sw, .int .i64 cnt, v] 30)) := (Below.refl _ _).alloc (Nat.le_refl _) _
  have hR := h.below hb1
  have HB := Lib.hid hb1; clear hb1 h
  obtain ⟨a1, c1, rfl, l1, m1, r1⟩ := hR
  go_enter Try.func35, Try.ntmps35
  go_wp2_with fail
  go_loop [3, 4] (fun n i => ∃ k : Nat, k ≤ zs.length ∧ i = .int .i64 k ∧ n = .int .i64 (sumI (zs.take k)) ∧ Hid (allB 0 1 (zs.take k) = true)) (fun _ i => zs.length - (intOf i).toNat)
  case atStart => exact ⟨0, Nat.zero_le _, rfl, rfl, rfl⟩
  case round =>
    obtain ⟨k, hk, rfl, rfl, hno⟩ := hrel
    by_cases hlt : k < zs.length
    · obtain ⟨g1, o1, z, rfl, hg1, x1, HZ⟩ := rd_at r1 k hlt
      clear r1
      go_wp2_with fail
      refine (l1In_any _ _ _ _).mono ?_
      rintro e w' ⟨rfl, rfl⟩
      rcases Bool.eq_false_or_eq_true (inB 0 1 z) with hb | hb
      · have ha := allB_snoc hlt HZ.out hno.out hb
        have hz2 := inB_in hb
        have hs := sumI_take zs k hlt
        have hbd := allB_bd hno.out
        have hle : ((zs.take k).length : Int) ≤ k := by simp; omega
        obtain ⟨s, hs0⟩ : ∃ s, s = sumI (zs.take k) := ⟨_, rfl⟩
        rw [← hs0] at hs hbd ⊢
        rw [hb]
        have hbd2 : 0 ≤ s ∧ s ≤ 1048576 := by omega
        have HS := Lib.hid hs; have HA := Lib.hid ha; have HS0 := Lib.hid hs0
        clear hs ha hs0 hb hbd hle
        go_wp2_with fail
        go_round
        case rel => exact ⟨k + 1, by omega, by go_num, by rw [HS.out, ← HZ.out], HA⟩
        case measure => simp [intOf]; omega
      · have ha := allB_not hlt HZ.out hb
        rw [hb]
        have HF : Hid (roomB sw cnt zs = false) := by unfold Hid roomB; rw [ha]; simp
        clear ha hb
        go_wp2_with fail
        go_ret
        exact ⟨ret_bool HF.out.symm, HB.out⟩
    · have hk' : k = zs.length := by omega
      subst hk'
      rw [List.take_length] at hno ⊢
      have hbd := allB_bd hno.out
      obtain ⟨s, hs0⟩ : ∃ s, s = sumI zs := ⟨_, rfl⟩
      rw [← hs0] at hbd ⊢
      go_wp2_with fail
      refine (l1In_any _ _ _ _).mono ?_
      rintro e w' ⟨rfl, rfl⟩
      rcases Bool.eq_false_or_eq_true (inB 1 5 (zs.length : Int)) with hb | hb
      · have hb5 := inB_in hb
        rw [hb]
        obtain ⟨g1, o1, z, rfl, hg1, x1, HZ⟩ := rd_at r1 0 (by omega)
        clear r1
        rw [Nat.add_zero] at x1
        go_wp2_with fail
        refine (l1In_any _ _ _ _).mono ?_
        rintro e w' ⟨rfl, rfl⟩
        rcases Bool.eq_false_or_eq_true (inB 0 1 sw) with hb2 | hb2
        · have hsw := inB_in hb2
          rw [hb2]
          have HF : Hid (roomB sw cnt zs = (decide (0 ≤ cnt) && (decide (z = 0) && decide (s = cnt + sw)))) := by
            unfold Hid roomB; rw [hb, hno.out, hb2, ← HZ.out, ← hs0]; rfl
          have HS0 := Lib.hid hs0
          clear hb hb2 hs0
          have hl2 := hb5.2
          by_cases hz0 : z = 0
          · have hzq : (z == 0) = true := by simpa using hz0
            have HZ0 := Lib.hid hz0; clear hz0
            by_cases hc0 : 0 ≤ cnt
            · by_cases hm : cnt + sw ≤ 9223372036854775807
              · by_cases he : s = cnt + sw
                · have heq : (s == cnt + sw) = true := by simpa using he
                  have HE := Lib.hid he; clear he
                  go_wp2_with fail
                  go_ret
                  exact ⟨ret_bool (by rw [HF.out]; have h1 := HS0.out; have h2 := HE.out; simp [HZ0.out, HE.out, hc0]; omega), HB.out⟩
                · have heq : (s == cnt + sw) = false := by simpa using he
                  have HE := Lib.hid he; clear he
                  go_wp2_with fail
                  go_ret
                  exact ⟨ret_bool (by rw [HF.out]; have h1 := HS0.out; have h2 := HE.out; simp [HZ0.out, HE.out, hc0]; omega), HB.out⟩
              · have hw : ¬ s = wrap64 (cnt + sw) := by unfold wrap64; omega
                have heq : (s == wrap64 (cnt + sw)) = false := by simpa using hw
                have HE : Hid (¬ s = cnt + sw) := by unfold Hid; omega
                have HW := Lib.hid hw
                clear hw
                go_wp2_with fail
                go_ret
                exact ⟨ret_bool (by rw [HF.out]; have h1 := HS0.out; have h2 := HW.out; simp [HZ0.out, HE.out, hc0]; rw [← h1]; exact h2), HB.out⟩
            · go_wp2_with fail
              go_ret
              exact ⟨ret_bool (by rw [HF.out]; simp [HZ0.out]; omega), HB.out⟩
          · have hzq : (z == 0) = false := by simpa using hz0
            have HZ0 := Lib.hid hz0; clear hz0
            go_wp2_with fail
            go_ret
            exact ⟨ret_bool (by rw [HF.out]; simp [HZ0.out]), HB.out⟩
        · rw [hb2]
          have HF : Hid (roomB sw cnt zs = false) := by unfold Hid roomB; rw [hb2]; simp
          have HS0 := Lib.hid hs0
          clear hb hb2 hs0
          go_wp2_with fail
          go_ret
          exact ⟨ret_bool HF.out.symm, HB.out⟩
      · rw [hb]
        have HF : Hid (roomB sw cnt zs = false) := by unfold Hid roomB; rw [hb]; simp
        have HS0 := Lib.hid hs0
        clear hb hs0
        go_wp2_with fail
        go_ret
        exact ⟨ret_bool HF.out.symm, HB.out⟩

set_option maxRecDepth 100000 in
theorem implRoomOk_any (sw cnt : Int) (v : Value) (zs : List Int) (w : World) (h : Rd w v zs) :
    Calls Try.prog 37 #[.agg #[.int .i64 sw, .int .i64 cnt, v]] w fun e w' => e = .returned (.bool (roomB sw cnt zs)) ∧ Below w.heap.size w w' := by
  have hb1 : Below w.heap.size w (w.alloc (.cells #[.int .i64 sw, .int .i64 cnt, v] 30)) := (Below.refl _ _).alloc (Nat.le_refl _) _
  have hR := h.below hb1
  have HB := Lib.hid hb1; clear hb1 h
  have hR2 := hR
  obtain ⟨a1, c1, rfl, l1, m1, r1⟩ := hR
  go_enter Try.func37, Try.ntmps37
  go_wp2_with fail
  refine (in_any _ _ _ _).mono ?_
  rintro e w' ⟨rfl, rfl⟩
  rcases Bool.eq_false_or_eq_true (inB 1 5 (zs.length : Int)) with hb | hb
  · have hb5 := inB_in hb
    rw [hb]
    go_wp2_with fail
    refine (allIn_any _ zs _ _ _ hR2).mono ?_
    rintro e w2 ⟨rfl, b2⟩
    rw [World.size_alloc] at b2
    rcases Bool.eq_false_or_eq_true (allB 0 1 zs) with hb2 | hb2
    · rw [hb2]
      have hblk : w2.heap[w.heap.size]? = some (.cells #[.int .i64 sw, .int .i64 cnt, .slice a1 zs.length c1] 30 (0, 0)) := (b2.block _ (by omega)).trans (heap_alloc_new _ _)
      obtain ⟨⟨k0, k1, k2⟩, -, -, -, kz⟩ := blk3 hblk
      have HB2 := Lib.hid (HB.out.trans (b2.mono (by omega)))
      have hR3 := hR2.below (by rw [World.size_alloc]; exact b2)
      clear hblk b2
      go_wp2_with fail
      refine (in_any _ _ _ _).mono ?_
      rintro e w' ⟨rfl, rfl⟩
      rcases Bool.eq_false_or_eq_true (inB 0 1 sw) with hb3 | hb3
      · have hsw := inB_in hb3
        rw [hb3]
        go_wp2_with fail
        refine (in_any _ _ _ _).mono ?_
        rintro e w' ⟨rfl, rfl⟩
        rcases Bool.eq_false_or_eq_true (inB 0 5 cnt) with hb4 | hb4
        · have hcn := inB_in hb4
          rw [hb4]
          obtain ⟨a, c, e, l2, m2, r2⟩ := hR3
          injection e with e1 e2 e3
          subst e1 e3
          obtain ⟨g1, o1, z, rfl, hg1, x1, HZ⟩ := rd_at r2 0 (by omega)
          rw [Nat.add_zero] at x1
          have hRt : Rd w' (.slice (some ⟨g1, o1, none⟩) zs.length c1) zs := ⟨_, _, rfl, l2, m2, r2⟩
          have htot := fun n => total_any _ zs 1 (w'.drewN n) (hRt.drewN n) (fun z hz => inB_in (List.all_eq_true.1 hb2 z hz)) (by omega)
          have HT := Lib.hid htot
          have HF : Hid (roomB sw cnt zs = (decide (z = 0) && decide (sumI zs = cnt + sw))) := by
            unfold Hid roomB; rw [hb, hb2, hb3, ← HZ.out]; simp [hcn.1]
          have hbd := allB_bd hb2
          obtain ⟨s, hs0⟩ : ∃ s, s = sumI zs := ⟨_, rfl⟩
          rw [← hs0] at hbd HT HF
          clear hb hb2 hb3 hb4 r1 r2 e2 hR2 l1 m1 htot hRt hs0
          by_cases hz0 : z = 0
          · have hzq : (z == 0) = true := by simpa using hz0
            have HZ0 := Lib.hid hz0; clear hz0
            by_cases he : s = cnt + sw
            · have heq : (s == cnt + sw) = true := by simpa using he
              have HE := Lib.hid he; clear he
              go_wp2_with fail
              go_quiet ((go_at_call 61; exact Calls.quiet_of_same (HT.out _)))
              go_wp2
              go_ret
              exact ⟨ret_bool (by rw [HF.out]; simp [HZ0.out, HE.out]), below_drewN HB2.out _⟩
            · have heq : (s == cnt + sw) = false := by simpa using he
              have HE := Lib.hid he; clear he
              go_wp2_with fail
              go_quiet ((go_at_call 61; exact Calls.quiet_of_same (HT.out _)))
              go_wp2
              go_ret
              exact ⟨ret_bool (by rw [HF.out]; simp [HE.out]), below_drewN HB2.out _⟩
          · have hzq : (z == 0) = false := by simpa using hz0
            have HZ0 := Lib.hid hz0; clear hz0
            go_wp2_with fail
            go_quiet (fail)
            go_wp2
            go_ret
            exact ⟨ret_bool (by rw [HF.out]; simp [HZ0.out]), below_drewN HB2.out _⟩
        · rw [hb4]
          have HF : Hid (roomB sw cnt zs = false) := by
            unfold Hid
            have hbd := allB_bd hb2
            have := inB_out hb4
            cases h : roomB sw cnt zs
            · rfl
            · obtain ⟨_, _, _, q1, q2, q3, _, q4⟩ := roomB_yes h; omega
          clear hb hb2 hb3 hb4
          go_wp2_with fail
          go_ret
          exact ⟨ret_bool HF.out.symm, HB2.out⟩
      · rw [hb3]
        have HF : Hid (roomB sw cnt zs = false) := by unfold Hid roomB; rw [hb3]; simp
        clear hb hb2 hb3
        go_wp2_with fail
        go_ret
        exact ⟨ret_bool HF.out.symm, HB2.out⟩
    · rw [hb2]
      have HF : Hid (roomB sw cnt zs = false) := by unfold Hid roomB; rw [hb2]; simp
      have HB2 := Lib.hid (HB.out.trans (b2.mono (by omega)))
      clear hb hb2 b2
      go_wp2_with fail
      go_ret
      exact ⟨ret_bool HF.out.symm, HB2.out⟩
  · rw [hb]
    have HF : Hid (roomB sw cnt zs = false) := by unfold Hid roomB; rw [hb]; simp
    clear hb
    go_wp2_with fail
    go_ret
    exact ⟨ret_bool HF.out.symm, HB.out⟩

set_option maxRecDepth 100000 in
theorem szRoom_any (sw cnt : Int) (a : Option Addr) (n c : Nat) (w : World) (hn : n ≤ 9223372036854775807) :
    Calls Try.prog 34 #[.agg #[.int .i64 sw, .int .i64 cnt, .slice a n c], .int .i64 1048576] w fun e w' => (∃ l : Int, e = .returned (.int .i64 l) ∧ (l < 0 ↔ 1048576 < n)) ∧ Below w.heap.size w w' := by
  have hb1 : Below w.heap.size w (w.alloc (.cells #[.int .i64 sw, .int .i64 cnt, .slice a n c] 36)) := (Below.refl _ _).alloc (Nat.le_refl _) _
  have HB := Lib.hid hb1; clear hb1
  by_cases hb : 1048576 < n
  · go_enter Try.func34, Try.ntmps34
    go_wp2
    go_ret
    exact ⟨⟨-1, rfl, by omega⟩, HB.out⟩
  · go_enter Try.func34, Try.ntmps34
    go_wp2
    go_ret
    exact ⟨⟨_, rfl, by omega⟩, HB.out⟩

set_option maxRecDepth 100000 in
theorem toRoom_any (sw cnt : Int) (v : Value) (zs : List Int) (w : World) (h : Rd w v zs) (hsz : zs.length ≤ 35184372088832) :
    Calls Try.prog 36 #[.agg #[.int .i64 sw, .int .i64 cnt, v]] w fun e w' => (∃ A n c, e = .returned (.agg #[.int .i64 sw, .int .i64 cnt, .slice A n c]) ∧ Own w' w.heap.size w'.heap.size (.slice A n c) zs) ∧ Below w.heap.size w w' := by
  obtain ⟨A0, c0, e0, hh⟩ := h
  subst e0
  have h : Rd w (.slice A0 zs.length c0) zs := ⟨A0, c0, rfl, hh⟩
  obtain ⟨W, hW⟩ : ∃ W : World, W = ((w.alloc (.cells #[.int .i64 sw, .int .i64 cnt, .slice A0 zs.length c0] 36)).alloc (.cells #[.int .i64 0, .int .i64 0, .slice none 0 0] 30)).alloc (.cells #[.int .i64 sw, .int .i64 cnt, .slice none 0 0] 30) := ⟨_, rfl⟩
  have hb3 : Below w.heap.size w W := by
    rw [hW]; exact (((Below.refl _ _).alloc (Nat.le_refl _) _).alloc (by simp) _).alloc (by simp; omega) _
  have hs3 : W.heap.size = w.heap.size + 3 := by rw [hW]; simp
  have g1 : W.heap[w.heap.size + 1]? = some (.cells #[.int .i64 0, .int .i64 0, .slice none 0 0] 30 (0, 0)) := by
    rw [hW, Below.heap_alloc _ _ _ (by simp)]; exact heap_alloc2_new _ _ _
  have g2 : W.heap[w.heap.size + 2]? = some (.cells #[.int .i64 sw, .int .i64 cnt, .slice none 0 0] 30 (0, 0)) := by
    rw [hW]
    have := heap_alloc_new ((w.alloc (.cells #[.int .i64 sw, .int .i64 cnt, .slice A0 zs.length c0] 36)).alloc (.cells #[.int .i64 0, .int .i64 0, .slice none 0 0] 30)) (.cells #[.int .i64 sw, .int .i64 cnt, .slice none 0 0] 30)
    simpa using this
  have HW := Lib.hid hW
  clear hW hh
  have H := Lib.hid (toIntS_any _ zs W (h.below hb3) hsz)
  go_enter Try.func36, Try.ntmps36
  go_wp2_with fail
  rw [← HW.out]
  refine H.out.mono ?_
  rintro e w2 ⟨u, rfl, o2, b2⟩
  obtain ⟨A, n, c, rfl⟩ := own_form o2
  have s2 := b2.size
  have k1 := (b2.block _ (by omega)).trans g1
  have k2 := (b2.block _ (by omega)).trans g2
  obtain ⟨⟨x0, x1, x2⟩, y0, y1, y2, z1⟩ := blk3 k1
  obtain ⟨⟨x3, x4, x5⟩, y3, y4, y5, z2⟩ := blk3 k2
  have hbf := hb3.trans (b2.mono (by omega))
  have HB := Lib.hid hbf
  have HS := Lib.hid hs3
  clear k1 k2 g1 g2 b2 hb3 hbf h s2 hs3
  go_wp2
  refine bodyPost_ret (v := .agg #[.int .i64 sw, .int .i64 cnt, .slice A n c]) (by simp [results, Try.results36, go_sem, x0, x1, x2]) rfl ⟨⟨A, n, c, rfl, ?_⟩, ?_⟩
  · have s := HS.out
    refine ((o2.keep (fun g hg _ => ?_)).wide (lo' := w.heap.size) (hi' := w2.heap.size) (by omega) (Nat.le_refl _)).wide (Nat.le_refl _) (by simp)
    repeat rw [heap_setCell_other _ _ _ _ (by simp; omega)]
  · refine Below.setCell (Below.setCell (Below.setCell (Below.setCell HB.out ?_ _) ?_ _) ?_ _) ?_ _ <;> (simp only []; omega)
end Go.Proofs.Ytnpfjpihcdlmhaa
