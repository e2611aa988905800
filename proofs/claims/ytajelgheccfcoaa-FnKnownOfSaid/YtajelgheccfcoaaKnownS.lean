/- What is known of each of the people, at the specification. -/
import Derived.Test.YtajelgheccfcoaaWaysS
import Derived.Test.YtajelgheccfcoaaKnownI
namespace Go.Proofs.Ytajelgheccfcoaa
open Go.RowKit

theorem below_of_kept {B : Nat} {w w' : World} (h : Below w.heap.size w w') (hB : B ≤ w.heap.size) : Below B w w' := h.mono hB

set_option maxHeartbeats 6400000 in
set_option maxRecDepth 100000 in
theorem specKnownOf_any (p : Int) (v : Value) (ps : List Sy) (w : World) (hl : Brief ps) (h : RdS w v ps) :
    Calls Try.prog 25 #[.int .i64 p, v] w fun e w' => ∃ v', e = .returned v' ∧ Own w' w.heap.size w'.heap.size v' (knownI p (waysN p ps)) ∧ Below w.heap.size w w' := by
  have T := specWaysOf_any p v ps w hl h
  rw [waysI_N] at T
  have HT := Lib.hid T
  have H32 : Hid (∀ k ∈ waysN p ps, k < 32) := waysN_32
  have HP5 : Hid (waysN p ps ≠ [] → 1 ≤ p ∧ p ≤ 5) := waysN_say
  have HLN := Lib.hid (length_waysN p ps)
  obtain ⟨a, cp, rfl, -, -, -⟩ := h
  obtain ⟨i0, hi, hz0, hz1, hz2⟩ := info_parts infoInt
  have HJ := Lib.hid (And.intro hi (And.intro hz0 (And.intro hz1 hz2)))
  clear hl T hi hz0 hz1 hz2
  generalize waysN p ps = ks at *
  go_enter Try.func25, Try.ntmps25
  go_wp2_with fail
  with_reducible refine HT.out.mono ?_
  rintro e w1 ⟨v1, rfl, ho, hb⟩
  obtain ⟨W, hW⟩ : ∃ W : World, W = w1.alloc (.cells #[] 3) := ⟨_, rfl⟩
  have hb1 : Below w1.heap.size w1 W := by rw [hW]; exact (Below.refl _ _).alloc (Nat.le_refl _) _
  have ho0 : W.ownsRow w1.heap.size 3 1 (.slice (some ⟨w1.heap.size, 0, none⟩) 0 0) 0 [] := by rw [hW]; exact World.ownsRow_lit w1 #[] 0 (Nat.le_refl _) (by simp) (by simp)
  have hsW : W.heap.size = w1.heap.size + 1 := by rw [hW]; simp
  obtain ⟨a1, c1, rfl, l1, m1, r1⟩ := rd_nat ho.rd
  have HW := Lib.hid hW
  have HB := Lib.hid hb
  have HO0 := Lib.hid ho0
  have HB1 := Lib.hid hb1
  have s1 := hb.size
  clear ho hb hW ho0 hb1
  by_cases h0 : ks.length = 0
  · have hk0 : ks = [] := List.length_eq_zero_iff.1 h0
    have HK : Hid (knownI p ks = []) := by unfold Hid knownI; rw [if_pos hk0]
    have HEND : Hid (Own W w.heap.size W.heap.size (.slice (some ⟨w1.heap.size, 0, none⟩) 0 0) [] ∧ Below w.heap.size w W) :=
      ⟨(Own.new (zs := []) HO0.out (Nat.le_refl _)).wide s1 (Nat.le_refl _), HB.out.trans (HB1.out.mono s1)⟩
    have h0' : decide (0 < (ks.length : Int)) = false := by simp [h0]
    have h0'' : decide (0 < ks.length) = false := by simp [h0]
    clear r1 hk0
    by_cases hp : 0 < p
    · go_wp2
      rw [← HW.out]
      refine wp_loop_rounds 1 ?_
      rw [rounds_succ]
      go_wp2
      go_ret
      exact ⟨_, rfl, by rw [HK.out]; exact HEND.out.1, HEND.out.2⟩
    · go_wp2
      rw [← HW.out]
      refine wp_loop_rounds 1 ?_
      rw [rounds_succ]
      go_wp2
      go_ret
      exact ⟨_, rfl, by rw [HK.out]; exact HEND.out.1, HEND.out.2⟩
  · have hne : ks ≠ [] := fun e => h0 (by rw [e]; rfl)
    obtain ⟨hp1, hp5⟩ := HP5.out hne
    obtain ⟨n, rfl⟩ := Int.eq_ofNat_of_zero_le (show 0 ≤ p by omega)
    have HK : Hid (knownI (n : Int) ks = knownL ks n) := by unfold Hid knownI; rw [if_neg hne]; rfl
    have hlp : 0 < ks.length := by omega
    have hn5 : n ≤ 5 := by omega
    obtain ⟨g, off, rfl, hg, -⟩ := r1 0 hlp
    have HKC := Lib.hid (knownAt_cnt hne)
    have HE : Hid (∀ j, (hj : j < ks.length) → ∀ i, ∃ k, k < 32 ∧ w1.cell? ⟨g, off + j, none⟩ = some (.int .i64 (k : Nat)) ∧ cntB (ks.take (j + 1)) i = cntB (ks.take j) i + k / 2 ^ i % 2) := by
      intro j hj i
      obtain ⟨g', off', e1, _, x2⟩ := r1 j hj
      injection e1 with e1
      injection e1 with e1 e2
      subst e1 e2
      exact ⟨ks[j], H32.out _ (List.getElem_mem hj), x2, cntB_snoc hj⟩
    have HCL : Hid (∀ j i, cntB (ks.take j) i ≤ 32) := fun j i => Nat.le_trans (cntB_le _ _) (Nat.le_trans (by simp; omega) HLN.out)
    have HLN2 := HLN.out
    have h0' : decide (0 < (ks.length : Int)) = true := by simp; omega
    have h0'' : decide (0 < ks.length) = true := by simp; omega
    have HRW : Hid (∀ wr, Below W.heap.size W wr → ∀ j k : Nat, w1.cell? ⟨g, off + j, none⟩ = some (.int .i64 (k : Nat)) → wr.cell? ⟨g, off + j, none⟩ = some (.int .i64 (k : Nat))) := fun wr hb j k h =>
      ((HB1.out.trans (hb.mono (by omega))).cell (p := ⟨g, off + j, none⟩) hg).trans h
    clear r1 hne
    go_wp2
    rw [← HW.out]
    go_loopw [6, 7] (fun vo i wr => ∃ j : Nat, j ≤ n ∧ i = .int .i64 j ∧ wr.ownsRow w1.heap.size 3 1 vo (knownL ks j).length ((knownL ks j).map (Value.int .i64)) ∧ Below w1.heap.size w1 wr ∧ w1.heap.size ≤ wr.heap.size)
      (fun _ i _ => n - (intOf i).toNat)
    case atStart => exact ⟨0, Nat.zero_le _, rfl, HO0.out, HB1.out, by omega⟩
    case round =>
      obtain ⟨j, hj, rfl, ho, hbr, hsr⟩ := hrel
      obtain ⟨wk, hwk⟩ : ∃ wk, wk = wr := ⟨_, rfl⟩
      subst hwk
      by_cases hlt : j < n
      · have HSUC := Lib.hid (knownL_succ ks j)
        have HKA := Lib.hid (HKC.out j)
        have hll : (knownL ks j).length ≤ 5 := by rw [length_knownL]; omega
        have hj4 : j ≤ 4 := by omega
        have hc1 : Hid (∀ j k : Nat, w1.cell? ⟨g, off + j, none⟩ = some (.int .i64 (k : Nat)) → wk.cell? ⟨g, off + j, none⟩ = some (.int .i64 (k : Nat))) := fun j k h => (hbr.cell (p := ⟨g, off + j, none⟩) hg).trans h
        have HO := Lib.hid ho
        have HBR := Lib.hid hbr
        clear ho hbr
        generalize knownL ks j = zs at *
        go_wp2_with fail
        go_loop [8, 9] (fun c i => ∃ t : Nat, t ≤ ks.length ∧ i = .int .i64 t ∧ c = .int .i64 (cntB (ks.take t) j : Nat)) (fun _ i => ks.length - (intOf i).toNat)
        case atStart => exact ⟨0, Nat.zero_le _, rfl, rfl⟩
        case round =>
          obtain ⟨t, ht, rfl, rfl⟩ := hrel
          by_cases hlt2 : t < ks.length
          · obtain ⟨k, hk32, hx, hcn⟩ := HE.out t hlt2 j
            have hx2 := hc1.out t k hx
            obtain ⟨D, hD⟩ : ∃ D, D = k / 2 ^ j := ⟨_, rfl⟩
            rw [← hD] at hcn
            have hdiv : (k : Int) / 2 ^ j = (D : Int) := by rw [hD]; simp
            have hcl := HCL.out t j
            have HCN := Lib.hid hcn
            have hD2 : D % 2 = 0 ∨ D % 2 = 1 := by omega
            clear hcn hx hD
            generalize cntB (ks.take t) j = C at *
            obtain h2 | h2 := hD2
            · have h2' : (D : Int) % 2 = 0 := by omega
              go_wp2
              go_round
              case rel => exact ⟨t + 1, by omega, by go_num, by rw [HCN.out, h2]; go_num⟩
              case measure => simp [intOf]; omega
            · have h2' : (D : Int) % 2 = 1 := by omega
              go_wp2
              go_round
              case rel => exact ⟨t + 1, by omega, by go_num, by rw [HCN.out, h2]; go_num⟩
              case measure => simp [intOf]; omega
          · have ht' : t = ks.length := by omega
            subst ht'
            have hcl := HCL.out ks.length j
            rw [List.take_length] at hcl ⊢
            obtain ⟨hji, hjy0, hjy1, hjy2⟩ := HJ.out
            have hso := HO.out
            generalize cntB ks j = C at *
            by_cases hC0 : C = 0
            · have q0 : ((C : Int) == 0) = true := by simp [hC0]
              have HS2 : Hid (knownL ks (j + 1) = zs ++ [0]) := by unfold Hid; rw [HSUC.out, HKA.out, if_pos hC0]
              go_wp2_with (first | (at_builtin; go_loud (refine wpList_append_own _ rfl _ _ 32 rfl w1.heap.size 3 i0 (.int .i64 0) 1 8 Try.underlying32 hji hjy0 hjy1 hjy2 rfl (by decide) _ _ _ rfl (hso.alloc _) ⟨wk.heap.size, 0, none⟩ 1 1 [.int .i64 0] rfl rfl (one_new _ _ _) ?c2 ?c3 ?c4 ?c5 ?_)) | go_in)
              case c2 => first | exact one_cell _ _ | rfl
              case c3 => unfold maxLen; omega
              case c4 => omega
              case c5 => first | omega | (simp; omega)
              intro v' w9 hown' hgr _
              have HRL := Lib.hid (app_rel hso HBR.out (Nat.le_refl _) hsr hown' hgr)
              clear hown' hgr hso hjy0 hjy1 hjy2 hji
              go_wp2
              go_roundw
              case rel => exact ⟨j + 1, by omega, by go_num, by rw [HS2.out]; exact HRL.out.1, HRL.out.2.1, HRL.out.2.2⟩
              case measure => simp [intOf]; omega
            · have q0 : ((C : Int) == 0) = false := by rw [beq_eq_false_iff_ne]; omega
              by_cases hC1 : C = ks.length
              · have q1 : ((C : Int) == (ks.length : Int)) = true := by rw [hC1]; simp
                have HS2 : Hid (knownL ks (j + 1) = zs ++ [1]) := by unfold Hid; rw [HSUC.out, HKA.out, if_neg hC0, if_pos hC1]
                go_wp2_with (first | (at_builtin; go_loud (refine wpList_append_own _ rfl _ _ 32 rfl w1.heap.size 3 i0 (.int .i64 0) 1 8 Try.underlying32 hji hjy0 hjy1 hjy2 rfl (by decide) _ _ _ rfl (hso.alloc _) ⟨wk.heap.size, 0, none⟩ 1 1 [.int .i64 1] rfl rfl (one_new _ _ _) ?c2 ?c3 ?c4 ?c5 ?_)) | go_in)
                case c2 => first | exact one_cell _ _ | rfl
                case c3 => unfold maxLen; omega
                case c4 => omega
                case c5 => first | omega | (simp; omega)
                intro v' w9 hown' hgr _
                have HRL := Lib.hid (app_rel hso HBR.out (Nat.le_refl _) hsr hown' hgr)
                clear hown' hgr hso hjy0 hjy1 hjy2 hji
                go_wp2
                go_roundw
                case rel => exact ⟨j + 1, by omega, by go_num, by rw [HS2.out]; exact HRL.out.1, HRL.out.2.1, HRL.out.2.2⟩
                case measure => simp [intOf]; omega
              · have q1 : ((C : Int) == (ks.length : Int)) = false := by rw [beq_eq_false_iff_ne]; omega
                have HS2 : Hid (knownL ks (j + 1) = zs ++ [2]) := by unfold Hid; rw [HSUC.out, HKA.out, if_neg hC0, if_neg hC1]
                go_wp2_with (first | (at_builtin; go_loud (refine wpList_append_own _ rfl _ _ 32 rfl w1.heap.size 3 i0 (.int .i64 0) 1 8 Try.underlying32 hji hjy0 hjy1 hjy2 rfl (by decide) _ _ _ rfl (hso.alloc _) ⟨wk.heap.size, 0, none⟩ 1 1 [.int .i64 2] rfl rfl (one_new _ _ _) ?c2 ?c3 ?c4 ?c5 ?_)) | go_in)
                case c2 => first | exact one_cell _ _ | rfl
                case c3 => unfold maxLen; omega
                case c4 => omega
                case c5 => first | omega | (simp; omega)
                intro v' w9 hown' hgr _
                have HRL := Lib.hid (app_rel hso HBR.out (Nat.le_refl _) hsr hown' hgr)
                clear hown' hgr hso hjy0 hjy1 hjy2 hji
                go_wp2
                go_roundw
                case rel => exact ⟨j + 1, by omega, by go_num, by rw [HS2.out]; exact HRL.out.1, HRL.out.2.1, HRL.out.2.2⟩
                case measure => simp [intOf]; omega
      · have hj' : j = n := by omega
        have HOE : Hid (Own wk w.heap.size wk.heap.size u6 (knownI (n : Int) ks)) := by
          unfold Hid
          rw [HK.out, ← hj']
          exact (Own.new ho (Nat.le_refl _)).wide s1 (Nat.le_refl _)
        have HBE := Lib.hid (HB.out.trans (hbr.mono s1))
        clear ho hbr
        go_wp2
        go_ret
        exact ⟨_, rfl, HOE.out, HBE.out⟩
end Go.Proofs.Ytajelgheccfcoaa
