/- CirclesOf of the reference: the walk. -/
import Derived.Test.YtdpijiccolbljaaCircP
namespace Go.Proofs.Ytdpijiccolbljaa
open Go.RowKit

set_option maxHeartbeats 3200000 in
set_option maxRecDepth 100000 in
theorem specCirclesOf_any (v : Value) (zs : List Int) (w : World) (h : Rd w v zs) :
    Calls Try.prog 31 #[v] w fun e w' => ∃ v', e = .returned v' ∧ Own w' w.heap.size w'.heap.size v' (circI zs) ∧ Below w.heap.size w w' := by
  obtain ⟨i0, hi, hz0, hz1, hz2⟩ := info_parts infoInt
  obtain ⟨W, hW⟩ : ∃ W : World, W = w.alloc (.cells #[] 3) := ⟨_, rfl⟩
  have hbW : Below w.heap.size w W := by rw [hW]; exact (Below.refl _ _).alloc (Nat.le_refl _) _
  have hsW : W.heap.size = w.heap.size + 1 := by rw [hW]; simp
  have hoW : W.ownsRow w.heap.size 3 1 (.slice (some ⟨w.heap.size, 0, none⟩) 0 0) (iz []).length ((iz []).map (Value.int .i64)) := by rw [hW]; exact own_none w
  have hR := h
  obtain ⟨a1, c1, rfl, l1, m1, -⟩ := h
  have HW := Lib.hid hW; have HB := Lib.hid hbW; have HO := Lib.hid hoW
  have hs1 : w.heap.size ≤ W.heap.size := by omega
  have hR1 := hR.below hbW
  clear hW hbW hoW
  rcases Bool.eq_false_or_eq_true (boxB zs) with hb | hb
  rotate_left
  · have HF := Lib.hid (circI_no hb)
    have HQ : Hid (∀ W', Below w.heap.size w W' → W'.ownsRow w.heap.size 3 1 (.slice (some ⟨w.heap.size, 0, none⟩) 0 0) (iz []).length ((iz []).map (Value.int .i64)) → w.heap.size ≤ W'.heap.size → ∃ v', Ending.returned (.slice (some ⟨w.heap.size, 0, none⟩) 0 0) = .returned v' ∧ Own W' w.heap.size W'.heap.size v' (circI zs) ∧ Below w.heap.size w W') := fun W' h1 h2 _ =>
      ⟨_, rfl, by rw [HF.out]; exact Own.new h2 (Nat.le_refl _), h1⟩
    have HBX := Lib.hid hb
    clear hb
    by_cases h0 : zs.length = 0
    · rw [h0]
      go_enter Try.func31, Try.ntmps31
      go_wp2_with fail
      rw [← HW.out]
      refine wp_loop_rounds 1 ?_
      rw [rounds_succ]
      go_wp2_with fail
      refine wp_loop_rounds 1 ?_
      rw [rounds_succ]
      go_wp2_with fail
      go_ret
      exact HQ.out _ HB.out HO.out hs1
    · have h0' : (0 : Int) < zs.length := by omega
      go_enter Try.func31, Try.ntmps31
      go_wp2_with fail
      rw [← HW.out]
      refine wp_loop_rounds 1 ?_
      rw [rounds_succ]
      go_wp2_with fail
      with_reducible refine (specBoxesOk_any _ zs _ hR1).mono ?_
      rintro e w2 ⟨rfl, b2⟩
      rw [HBX.out]
      have HB2 := Lib.hid (HB.out.trans (b2.mono hs1))
      have HO2 := Lib.hid ((show Own W w.heap.size W.heap.size _ (iz []) from Own.new HO.out (Nat.le_refl _)).below b2 (Nat.le_refl _)).1
      have hs2 : w.heap.size ≤ w2.heap.size := by have := b2.size; omega
      clear b2
      go_wp2_with fail
      refine wp_loop_rounds 1 ?_
      rw [rounds_succ]
      go_wp2_with fail
      go_ret
      exact HQ.out _ HB2.out HO2.out hs2
  · obtain ⟨ns, rfl, hP⟩ := boxB_perm hb
    have HF := Lib.hid (circI_iz hP)
    have HBX := Lib.hid hb
    have HSO := Lib.hid hP.some
    have h7 := hP.hi
    rw [length_iz] at hR hR1 l1 ⊢
    have HR := Lib.hid hR
    clear hb hR hR1
    go_enter Try.func31, Try.ntmps31
    go_wp2_with fail
    rw [← HW.out]
    go_loopg [3, 4] ns.length (fun g v i wr => ∃ k : Nat, k ≤ ns.length ∧ g = ns.length - k ∧ i = .int .i64 k ∧ wr.ownsRow w.heap.size 3 1 v (iz (circK (nx ns) k)).length ((iz (circK (nx ns) k)).map (Value.int .i64)) ∧ Below w.heap.size w wr ∧ w.heap.size ≤ wr.heap.size)
    case atStart => exact ⟨0, Nat.zero_le _, rfl, rfl, HO.out, HB.out, hs1⟩
    case round =>
      clear HO HB
      obtain ⟨wo, rfl⟩ : ∃ wo : World, wo = wr := ⟨_, rfl⟩
      obtain ⟨k, hk, rfl, rfl, ho, hb, hs⟩ := hrel
      by_cases hlt : k < ns.length
      · have hRr := HR.out.below hb
        have HO := Lib.hid (Own.new ho (Nat.le_refl _))
        have HB := Lib.hid hb
        have hlk := length_circK (nx ns) k
        have hol := length_orb ns k
        have HN : Hid (circK (nx ns) (k + 1) = if minN (orb ns k) k = k then circK (nx ns) k ++ [(orb ns k).length] else circK (nx ns) k) := circK_succ (nx ns) k
        have HE := Lib.hid (openI_iz hP hlt)
        clear ho hb
        go_wp2_with fail
        with_reducible refine (specBoxesOk_any _ (iz ns) _ hRr).mono ?_
        rintro e w2 ⟨rfl, b2⟩
        rw [HBX.out]
        have hR2 := hRr.below b2
        have HB2 := Lib.hid (HB.out.trans (b2.mono hs))
        have HO2 := Lib.hid (HO.out.below b2 (Nat.le_refl _))
        have hs2 := b2.size
        clear b2 hRr
        go_wp2_with fail
        with_reducible refine (specOpenedBy_any _ (iz ns) k _ hR2).mono ?_
        rintro e w3 ⟨v3, rfl, o3, b3⟩
        rw [HE.out] at o3
        have hs3 := b3.size
        have HB3 := Lib.hid (HB2.out.trans (b3.mono (by omega)))
        have HO3 := Lib.hid (HO2.out.below b3 hs2).1
        have hr3 := o3.rd
        obtain ⟨A3, c3, rfl, l3, m3⟩ := rdN_out hr3
        have HR3 := Lib.hid hr3
        clear b3 hR2 o3 HB2 HO2 HB HO hr3
        have hs4 : w.heap.size ≤ w3.heap.size := by omega
        go_wp2_with fail
        go_loop [6, 7] (fun m i => ∃ j : Nat, j ≤ (orb ns k).length ∧ i = .int .i64 j ∧ m = .int .i64 ((minN ((orb ns k).take j) k : Nat) : Int)) (fun _ i => (orb ns k).length - (intOf i).toNat)
        case atStart => exact ⟨0, Nat.zero_le _, rfl, rfl⟩
        case round =>
          obtain ⟨j, hj, rfl, rfl⟩ := hrel
          by_cases hjl : j < (orb ns k).length
          · obtain ⟨g', off', rfl, hg', x1⟩ := rdN_at HR3.out j hjl
            have HS : Hid (minN ((orb ns k).take (j + 1)) k = if minN ((orb ns k).take j) k ≤ nx (orb ns k) j then minN ((orb ns k).take j) k else nx (orb ns k) j) := by unfold Hid; rw [takeN_snoc _ j hjl, minN_snoc]
            generalize minN ((orb ns k).take j) k = m at *
            generalize nx (orb ns k) j = z at *
            go_wp2
            go_round
            case rel =>
              refine ⟨j + 1, by omega, by go_num, ?_⟩
              rw [HS.out]
              congr 1
              split <;> split <;> omega
            case measure => simp [intOf]; omega
          · have hj' : j = (orb ns k).length := by omega
            subst hj'
            rw [List.take_length]
            obtain ⟨m, hm⟩ : ∃ m, m = minN (orb ns k) k := ⟨_, rfl⟩
            obtain ⟨L, hL⟩ : ∃ L, L = (orb ns k).length := ⟨_, rfl⟩
            rw [← hm, ← hL] at HN
            rw [← hm, ← hL]
            rw [← hL] at hol
            have HL := Lib.hid hL
            clear hj hjl l3 HR3 hL
            by_cases hmk : m = k
            · have hq : ((m : Int) == (k : Int)) = true := by rw [hmk]; simp
              have HN2 : Hid (circK (nx ns) (k + 1) = circK (nx ns) k ++ [L]) := by unfold Hid; rw [HN.out, if_pos hmk]
              have hlk2 : (iz (circK (nx ns) k)).length ≤ 7 := by rw [length_iz]; omega
              have ho := HO3.out
              clear hm hmk HN HO3
              go_wp2_with (first | (at_builtin; go_loud (refine wpList_append_own _ rfl _ _ 22 rfl w.heap.size 3 i0 (.int .i64 0) 1 8 Try.underlying22 hi hz0 hz1 hz2 rfl (by decide) _ _ _ rfl (ho.alloc _) ⟨_, 0, none⟩ 1 1 [.int .i64 (L : Int)] rfl rfl (one_new _ _ _) ?c2 ?c3 ?c4 ?c5 ?_)) | go_in)
              case c2 => first | exact one_cell _ _ | rfl
              case c3 => unfold maxLen; omega
              case c4 => omega
              case c5 => first | omega | (simp; omega)
              intro v' w5 hown' hgr _
              have hrel := app_rel ho HB3.out (Nat.le_refl _) hs4 hown' hgr
              have HR5 := Lib.hid hrel
              clear hrel hown' hgr ho hz0 hz1 hz2 hi
              go_wp2
              go_roundg (ns.length - (k + 1))
              case measure => omega
              case rel => exact ⟨k + 1, by omega, rfl, by go_num, by rw [HN2.out]; exact snoc_iz HR5.out.1, HR5.out.2.1, HR5.out.2.2⟩
            · have hq : ((m : Int) == (k : Int)) = false := by rw [beq_eq_false_iff_ne]; omega
              have HN2 : Hid (circK (nx ns) (k + 1) = circK (nx ns) k) := by unfold Hid; rw [HN.out, if_neg hmk]
              clear hm hmk HN
              go_wp2
              go_roundg (ns.length - (k + 1))
              case measure => omega
              case rel => exact ⟨k + 1, by omega, rfl, by go_num, by rw [HN2.out]; exact HO3.out, HB3.out, hs4⟩
      · have hk' : k = ns.length := by omega
        subst hk'
        have hl0 := HSO.out
        have hl7 := length_circK (nx ns) ns.length
        have ho2 : Own wo w.heap.size wo.heap.size _ (iz (circK (nx ns) ns.length)) := Own.new ho (Nat.le_refl _)
        obtain ⟨A, c, hv⟩ := own_form ho2
        rw [hv] at ho2
        obtain ⟨g, rfl⟩ := own_block ho2 (by rw [length_iz]; exact hl0)
        rw [length_iz] at hv ho2
        rw [hv]
        clear hv ho
        generalize hcs : circK (nx ns) ns.length = us at *
        have HCS := Lib.hid hcs
        have HB := Lib.hid hb
        have hs1' := hs
        have HS : Hid (Own wo w.heap.size wo.heap.size (.slice (some ⟨g, 0, none⟩) us.length c) (iz (srtK us 1 ++ us.drop 1))) := by rw [srtK_one us hl0]; exact ho2
        clear hcs hb ho2
        go_wp2_with fail
        go_loopg [8] (us.length - 1) (fun gk s6 wr => ∃ i : Nat, 1 ≤ i ∧ i ≤ us.length ∧ gk = us.length - i ∧ s6 = .int .i64 i ∧ Own wr w.heap.size wo.heap.size (.slice (some ⟨g, 0, none⟩) us.length c) (iz (srtK us i ++ us.drop i)) ∧ Turned w.heap.size wo.heap.size wo wr)
        case atStart => exact ⟨1, Nat.le_refl _, hl0, rfl, rfl, HS.out, ⟨rfl, rfl, rfl, Nat.le_refl _, fun _ _ _ => rfl⟩⟩
        case round =>
          clear HS
          obtain ⟨wp, rfl⟩ : ∃ wp : World, wp = wr := ⟨_, rfl⟩
          obtain ⟨i, hi1, hi2, rfl, rfl, ho, ht⟩ := hrel
          have HO := Lib.hid ho
          have HT := Lib.hid ht
          clear ho ht
          by_cases hlt2 : i < us.length
          · have HS1 : Hid (Own wp w.heap.size wo.heap.size (.slice (some ⟨g, 0, none⟩) us.length c) (iz (rowAt us i i))) := by unfold Hid; rw [rowAt_start us i hlt2]; exact HO.out
            have HD : Hid (∀ x ∈ (srtK us i).drop i, nx us i < x) := fun x hx => by
              rw [List.drop_of_length_le (by rw [length_srtK us i hi2]; exact Nat.le_refl _)] at hx; cases hx
            have hrl : ∀ j, (iz (rowAt us i j)).length = us.length := fun j => by rw [length_iz, length_rowAt us i j hlt2]
            have HRL := Lib.hid hrl
            clear hrl
            go_wp2
            go_loopg [9] i (fun gj s7 wr => ∃ j : Nat, j ≤ i ∧ gj = j ∧ s7 = .int .i64 j ∧ Own wr w.heap.size wo.heap.size (.slice (some ⟨g, 0, none⟩) us.length c) (iz (rowAt us i j)) ∧ Hid (∀ x ∈ (srtK us i).drop j, nx us i < x) ∧ Turned w.heap.size wo.heap.size wo wr)
            case atStart => exact ⟨i, Nat.le_refl _, rfl, rfl, HS1.out, HD, HT.out⟩
            case round =>
              clear HS1 HD HO HT
              obtain ⟨j, hj, hg, rfl, ho, hd, ht⟩ := hrel
              have HG := Lib.hid hg
              clear hg
              rcases j with _ | j
              · have HE := Lib.hid (rowAt_end us i 0 hlt2 (Nat.zero_le _) hd.out (.inl rfl))
                have HO := Lib.hid ho
                have HT := Lib.hid ht
                clear ho ht
                go_wp2
                go_quiet (fail)
                go_wp2
                go_roundg (us.length - (i + 1))
                case measure => omega
                case rel => exact ⟨i + 1, by omega, by omega, rfl, by go_num, by rw [← HE.out]; exact HO.out.drewN _, turned_drewN HT.out _⟩
              · have x1 := ho.cellAt (j + 1) (by rw [HRL.out]; omega)
                have x0 := ho.cellAt j (by rw [HRL.out]; omega)
                rw [getD_iz, rowAt_here us i (j + 1) hlt2 hj] at x1
                rw [getD_iz, rowAt_before us i j hlt2 (by omega)] at x0
                have f1 := ho.frozenAt (j + 1) (by rw [HRL.out])
                have f0 := ho.frozenAt j (by rw [HRL.out])
                have HO := Lib.hid ho
                have HT := Lib.hid ht
                obtain ⟨a, ha⟩ : ∃ a, a = nx us i := ⟨_, rfl⟩
                obtain ⟨x, hx⟩ : ∃ x, x = nx (srtK us i) j := ⟨_, rfl⟩
                rw [← ha] at x1
                rw [← hx] at x0
                have HA := Lib.hid ha
                have HX := Lib.hid hx
                have hwr : IntKind.i64.wrap ((j : Int) + 1 - 1) = (j : Int) := by rw [IntKind.wrap_i64]; omega
                have hj1 : (j : Int) + 1 < us.length := by omega
                have hj2 : (j : Int) < us.length := by omega
                clear ho ht ha hx
                by_cases hax : a < x
                · have hax' : (a : Int) < x := by omega
                  have HD2 : Hid (∀ y ∈ (srtK us i).drop j, nx us i < y) := drop_more us i j hlt2 (by omega) hd.out (by rw [← HA.out, ← HX.out]; exact hax)
                  have s1 := HO.out.set (j + 1) (x : Int) (HRL.out _).symm
                  have s2 := s1.1.set j (a : Int) (by rw [List.length_set, HRL.out])
                  have y0 := s1.1.cellAt j (by rw [List.length_set, HRL.out]; omega)
                  have y9 := s1.1.frozenAt j (by rw [List.length_set, HRL.out])
                  generalize ((iz (rowAt us i (j + 1))).set (j + 1) (x : Int)).getD j 0 = q at y0
                  rw [iz_set, iz_set, HX.out, HA.out, rowAt_swap us i j hlt2 (by omega), ← HX.out, ← HA.out] at s2
                  have HS2 : Hid (Own ((wr.setCell ⟨g, j + 1, none⟩ (.int .i64 (x : Int))).setCell ⟨g, j, none⟩ (.int .i64 (a : Int))) w.heap.size wo.heap.size (.slice (some ⟨g, 0, none⟩) us.length c) (iz (rowAt us i j)) ∧ Turned w.heap.size wo.heap.size wo ((wr.setCell ⟨g, j + 1, none⟩ (.int .i64 (x : Int))).setCell ⟨g, j, none⟩ (.int .i64 (a : Int)))) :=
                    ⟨s2.1, turned_trans2 (turned_trans2 HT.out s1.2) s2.2⟩
                  clear s1 s2 HO HT
                  go_wp2
                  go_quiet (fail)
                  go_wp2
                  go_roundg j
                  case measure => have := HG.out; omega
                  case rel => exact ⟨j, by omega, rfl, by go_num, HS2.out.1.drewN _, HD2, turned_drewN HS2.out.2 _⟩
                · have hax' : ¬ (a : Int) < x := by omega
                  have HE := Lib.hid (rowAt_end us i (j + 1) hlt2 hj hd.out (.inr (by rw [Nat.add_sub_cancel, ← HA.out, ← HX.out]; omega)))
                  go_wp2
                  go_quiet (fail)
                  go_wp2
                  go_roundg (us.length - (i + 1))
                  case measure => omega
                  case rel => exact ⟨i + 1, by omega, by omega, rfl, by go_num, by rw [← HE.out]; exact HO.out.drewN _, turned_drewN HT.out _⟩
          · have hi : i = us.length := by omega
            subst hi
            have HF5 : Hid (Own wp w.heap.size wp.heap.size (.slice (some ⟨g, 0, none⟩) us.length c) (circI (iz ns))) := by
              have := HO.out
              rw [List.drop_length, List.append_nil, srtK_all us] at this
              unfold Hid
              rw [HF.out]
              unfold circG
              rw [HCS.out]
              exact this.wide (Nat.le_refl _) HT.out.size
            have HB5 := Lib.hid (below_turned HB.out HT.out (Nat.le_refl _) hs1')
            clear HO
            go_wp2
            go_ret
            exact ⟨_, rfl, HF5.out, HB5.out⟩
end Go.Proofs.Ytdpijiccolbljaa
