/- AfterVisit of the reference. -/
import Derived.Test.YtnpfjpihcdlmhaaAfterL
import Derived.Deep.RegionHeld3
import Derived.Deep.DeepCutAuto
namespace Go.Proofs.Ytnpfjpihcdlmhaa
open Go.RowKit

theorem below_drew {B : Nat} {a w : World} (h : Below B a w) : Below B a w.drew := ⟨h.os, h.tape, h.output, h.size, h.block⟩

set_option maxHeartbeats 1600000 in
set_option maxRecDepth 100000 in
theorem specAfterVisit_any (sw cnt : Int) (v : Value) (zs : List Int) (q : Int) (w : World) (h : Rd w v zs) (hc : -9223372036854775808 ≤ cnt ∧ cnt ≤ 9223372036854775807) (hl : zs.length ≤ 1048576) :
    Calls Try.prog 42 #[.agg #[.int .i64 sw, .int .i64 cnt, v], .int .i64 q] w fun e w' => (∃ A n c, e = .returned (.agg #[.int .i64 (avSw sw cnt zs q), .int .i64 (avCnt sw cnt zs q), .slice A n c]) ∧
      Own w' w.heap.size w'.heap.size (.slice A n c) (avDone sw cnt zs q)) ∧ Below w.heap.size w w' := by
  obtain ⟨A0, c0, e0, hh⟩ := h
  subst e0
  have h : Rd w (.slice A0 zs.length c0) zs := ⟨A0, c0, rfl, hh⟩
  clear hh
  obtain ⟨i0, hi, hz0, hz1, hz2⟩ := info_parts infoInt
  obtain ⟨W, hW⟩ : ∃ W : World, W = (w.alloc (.cells #[.int .i64 sw, .int .i64 cnt, .slice A0 zs.length c0] 30)).alloc (.cells #[.int .i64 0, .int .i64 0, .slice none 0 0] 30) := ⟨_, rfl⟩
  have hbW : Below w.heap.size w W := by rw [hW]; exact ((Below.refl _ _).alloc (Nat.le_refl _) _).alloc (by simp) _
  have hsW : W.heap.size = w.heap.size + 2 := by rw [hW]; simp
  have g1 : W.heap[w.heap.size]? = some (.cells #[.int .i64 sw, .int .i64 cnt, .slice A0 zs.length c0] 30 (0, 0)) := by
    rw [hW, Below.heap_alloc _ _ _ (by simp)]; exact heap_alloc_new _ _
  have g2 : W.heap[w.heap.size + 1]? = some (.cells #[.int .i64 0, .int .i64 0, .slice none 0 0] 30 (0, 0)) := by
    rw [hW]; exact heap_alloc2_new _ _ _
  have H := Lib.hid (specRoomOk_any sw cnt _ zs W (h.below hbW) hc hl)
  have hRW := h.below hbW
  have HW := Lib.hid hW
  clear hW h
  go_enter Try.func42, Try.ntmps42
  go_wp2_with fail
  rw [← HW.out]
  refine H.out.mono ?_
  rintro e w2 ⟨rfl, b2⟩
  have s2 := b2.size
  have k1 := (b2.block _ (by omega)).trans g1
  have k2 := (b2.block _ (by omega)).trans g2
  obtain ⟨⟨x0, x1, x2⟩, y0, y1, y2, z1⟩ := blk3 k1
  obtain ⟨⟨x3, x4, x5⟩, y3, y4, y5, z2⟩ := blk3 k2
  have hR2 := hRW.below b2
  have hb2 := hbW.trans (b2.mono (by omega))
  have HK1 := Lib.hid k1; have HK2 := Lib.hid k2
  clear g1 g2 k1 k2 b2 hbW hRW HW H
  rcases Bool.eq_false_or_eq_true (roomB sw cnt zs) with hrb | hrb
  · rw [hrb]
    go_wp2_with fail
    refine (l1In_any _ _ _ _).mono ?_
    rintro e w' ⟨rfl, rfl⟩
    rcases Bool.eq_false_or_eq_true (inB 0 ((zs.length : Int) - 1) q) with hq | hq
    · rw [hq]
      have hL1 := (roomB_yes hrb).1
      have HRd := Lib.hid hR2
      have HBW := Lib.hid hb2
      have hs2 : w.heap.size + 2 ≤ w'.heap.size := by omega
      obtain ⟨a, c, e, l2, m2, r2⟩ := hR2
      injection e with e1 e2 e3
      subst e1 e3
      obtain ⟨b, off, rfl, hbb, hcell⟩ := r2 (by omega)
      have HC := Lib.hid hcell
      obtain ⟨E0, hE0⟩ : ∃ o, o = Obj.cells #[] 3 (0, 0) := ⟨_, rfl⟩
      have K0 : w'.heap[w.heap.size]? = some (.cells #[.int .i64 sw, .int .i64 cnt, .slice (some ⟨b, off, none⟩) zs.length c0] 30 (0, 0)) := HK1.out
      have ka : ∀ o, (w'.alloc o).heap[w.heap.size]? = some (.cells #[.int .i64 sw, .int .i64 cnt, .slice (some ⟨b, off, none⟩) zs.length c0] 30 (0, 0)) := fun o => (Below.heap_alloc _ _ _ z1).trans K0
      have kb : ∀ o p, ((w'.alloc o).alloc p).heap[w.heap.size]? = some (.cells #[.int .i64 sw, .int .i64 cnt, .slice (some ⟨b, off, none⟩) zs.length c0] 30 (0, 0)) := fun o p => (Below.heap_alloc _ _ _ (by rw [World.size_alloc]; exact Nat.lt_succ_of_lt z1)).trans (ka o)
      have ca : ∀ o j, j < zs.length → (w'.alloc o).cell? ⟨b, off + j, none⟩ = some (.int .i64 (zs.getD j 0)) := fun o j hj => (World.cell?_alloc_lt w' _ ⟨b, off + j, none⟩ hbb).trans (hcell j hj)
      have cb : ∀ o p j, j < zs.length → ((w'.alloc o).alloc p).cell? ⟨b, off + j, none⟩ = some (.int .i64 (zs.getD j 0)) := fun o p j hj => (World.cell?_alloc_lt (w'.alloc o) _ ⟨b, off + j, none⟩ (by rw [World.size_alloc]; exact Nat.lt_succ_of_lt hbb)).trans (ca o j hj)
      have o1 : (w'.alloc (.cells #[] 3)).ownsRow w'.heap.size 3 1 (.slice (some ⟨w'.heap.size, 0, none⟩) 0 0) 0 [] := World.ownsRow_lit w' #[] 0 (Nat.le_refl _) (by simp) (by simp)
      have o2 : ∀ o, ((w'.alloc o).alloc (.cells #[] 3)).ownsRow w'.heap.size 3 1 (.slice (some ⟨w'.heap.size + 1, 0, none⟩) 0 0) 0 [] := fun o => by
        have := World.ownsRow_lit (w'.alloc o) (e := 3) (base := w'.heap.size) (size := 1) #[] 0 (by simp) (by simp) (by simp)
        simpa using this
      have P1 : Hid (AvPre w'.heap.size w.heap.size w.heap.size b off w'.heap.size (.cells #[.int .i64 sw, .int .i64 cnt, .slice (some ⟨b, off, none⟩) zs.length c0] 30 (0, 0)) (.cells #[.int .i64 sw, .int .i64 cnt, .slice (some ⟨b, off, none⟩) zs.length c0] 30 (0, 0)) zs (w'.alloc (.cells #[] 3)).drew) :=
        ⟨o1, ca _, ka _, ka _, by omega, by omega, by simp⟩
      have P2 : Hid (AvPre w'.heap.size w.heap.size (w'.heap.size + 1) b off w'.heap.size (.cells #[.int .i64 sw, .int .i64 cnt, .slice (some ⟨b, off, none⟩) zs.length c0] 30 (0, 0)) (.cells #[.int .i64 0, .int .i64 0, .slice none 0 0] 30 (0, 0)) zs ((w'.alloc (.cells #[] 3)).alloc (.cells #[.int .i64 0, .int .i64 0, .slice none 0 0] 30)).drew) :=
        ⟨o1.alloc _, cb _ _, kb _ _, heap_alloc2_new w' _ _, by omega, by omega, by simp; omega⟩
      have P3 : Hid (AvPre w'.heap.size w.heap.size w'.heap.size b off (w'.heap.size + 1) (.cells #[.int .i64 sw, .int .i64 cnt, .slice (some ⟨b, off, none⟩) zs.length c0] 30 (0, 0)) (.cells #[.int .i64 0, .int .i64 0, .slice none 0 0] 30 (0, 0)) zs ((w'.alloc (.cells #[.int .i64 0, .int .i64 0, .slice none 0 0] 30)).alloc (.cells #[] 3)).drew) :=
        ⟨o2 _, cb _ _, kb _ _, heap_alloc2_old w' _ _, by omega, by omega, by simp; omega⟩
      have X1 : Hid (Below w'.heap.size w' (w'.alloc (.cells #[] 3)).drew) := below_drew ((Below.refl _ _).alloc (Nat.le_refl _) _)
      have X2 : Hid (Below w'.heap.size w' ((w'.alloc (.cells #[] 3)).alloc (.cells #[.int .i64 0, .int .i64 0, .slice none 0 0] 30)).drew) := below_drew (((Below.refl _ _).alloc (Nat.le_refl _) _).alloc (by simp) _)
      have X3 : Hid (Below w'.heap.size w' ((w'.alloc (.cells #[.int .i64 0, .int .i64 0, .slice none 0 0] 30)).alloc (.cells #[] 3)).drew) := below_drew (((Below.refl _ _).alloc (Nat.le_refl _) _).alloc (by simp) _)
      have nn0 := World.new_ne w' _ x0
      have nn1 := World.new_ne w' _ x1
      have nn2 := World.new_ne w' _ x2
      have hq0 : w'.heap.size ≠ w.heap.size := by omega
      have hq1 : w'.heap.size + 1 ≠ w.heap.size := by omega
      clear hcell r2 e2 ka kb ca cb o1 o2 K0 hE0 E0
      go_upto_region 3 with (fail)
      go_cut [5] (fun s5 wx => AvCut w wx sw cnt (.slice (some ⟨b, off, none⟩) zs.length c0) zs s5)
      case first =>
        go_region_held3 (fun wy => wy.cell? ⟨w.heap.size, 0, none⟩ = some (.int .i64 sw) ∧ wy.cell? ⟨w.heap.size, 1, none⟩ = some (.int .i64 cnt) ∧ wy.cell? ⟨w.heap.size, 2, none⟩ = some (.slice (some ⟨b, off, none⟩) zs.length c0))
          (first | with_reducible exact ⟨n0, n1, n2⟩ | with_reducible exact ⟨keep3 _ _ _ hq1 _ _ _ _ _ n0, keep3 _ _ _ hq1 _ _ _ _ _ n1, keep3 _ _ _ hq1 _ _ _ _ _ n2⟩ | with_reducible exact ⟨keep3 _ _ _ hq0 _ _ _ _ _ n0, keep3 _ _ _ hq0 _ _ _ _ _ n1, keep3 _ _ _ hq0 _ _ _ _ _ n2⟩ | with_reducible exact ⟨(World.cell?_alloc_lt _ _ _ nz).trans n0, (World.cell?_alloc_lt _ _ _ nz).trans n1, (World.cell?_alloc_lt _ _ _ nz).trans n2⟩ | go_keep)
          ((refine av_app rfl rfl rfl rfl hL1 hl (by with_reducible (first | exact P1.out | exact P2.out | exact P3.out)) ?_; intro g3 cap3 w3 hpost; obtain ⟨⟨n0, n1, n2⟩, -, -, -, nz⟩ := blk3 hpost.room; obtain ⟨⟨t0, t1, t2⟩, u0, u1, u2, uz⟩ := blk3 hpost.kept; have HP := Lib.hid hpost; clear hpost))
        · go_wp2_with fail
          go_meet
          exact av_alloc HP.out X1.out (Nat.le_refl _) HBW.out hs2 HK1.out HK2.out HRd.out
        · go_wp2_with fail
          go_meet
          exact av_store HP.out X2.out (Nat.le_refl _) (by omega) (by omega) (by simp) HBW.out hs2 HK1.out HK2.out HRd.out
        · go_wp2_with fail
          go_meet
          exact av_store HP.out X3.out (by omega) (by omega) (by omega) (by simp; omega) HBW.out hs2 HK1.out HK2.out HRd.out
      case rest =>
        obtain ⟨g, lo, hi, A, cc, rfl, hg, hown, hd, hg2, hlo2, hhi, k1, k2, hRx, hbx⟩ := hcut
        have hav : avB sw cnt zs q = true := by unfold avB; rw [hrb, hq]; rfl
        have hqq := inB_in hq
        obtain ⟨P, rfl⟩ := Int.eq_ofNat_of_zero_le hqq.1
        have hP : P < zs.length := by omega
        have hsw := (roomB_cnt hrb).1
        have hcn := (roomB_cnt hrb).2
        obtain ⟨⟨e0, e1, e2⟩, f0, f1, f2, kz⟩ := blk3 hg
        obtain ⟨⟨d0, d1, d2⟩, -, -, -, kz1⟩ := blk3 k1
        obtain ⟨⟨d3, d4, d5⟩, f3, f4, f5, kz2⟩ := blk3 k2
        have HA : Hid (avSw sw cnt zs P = vSw sw zs P ∧ avCnt sw cnt zs P = vCnt sw cnt P ∧ avDone sw cnt zs P = vDone sw zs P) := by
          unfold Hid avSw avCnt avDone; rw [if_pos hav, if_pos hav, if_pos hav]; exact ⟨rfl, rfl, rfl⟩
        have HG := Lib.hid hg
        have HO := Lib.hid hown
        have HV0 : Hid (Visited g lo hi wc wc) := ⟨rfl, rfl, rfl, rfl, fun _ _ _ => rfl⟩
        have HFIN := Lib.hid (fun (Y : World) (x y : Value) (l : List Int) (hv : Visited g lo hi wc Y) (ho : Own Y lo hi (.slice A zs.length cc) l) => av_fin (x := x) (y := y) hbx hg2 hlo2 hhi hv ho k2)
        have hrow := hown.1
        obtain ⟨a4, c4, e4, l4, m4, r4⟩ := hRx
        injection e4 with e5 e6 e7
        subst e5 e7
        obtain ⟨g5, o5, z, e8, hg5, x5, HZ⟩ := rd_at r4 P hP
        injection e8 with e8
        injection e8 with e8 e9
        subst e8 e9
        clear hbx hg k1 k2 r4 e6 hav hq hrb x0 x1 x2 y0 y1 y2 y3 y4 y5 HK1 HK2 hb2
        by_cases h0 : P = 0
        · subst h0
          have HA : Hid (avSw sw cnt zs 0 = vSw sw zs 0 ∧ avCnt sw cnt zs 0 = vCnt sw cnt 0 ∧ avDone sw cnt zs 0 = vDone sw zs 0) := HA.out
          have hw1 : sw = 0 ∨ sw = 1 := by omega
          rcases hw1 with rfl | rfl
          · have HE : Hid (vSw 0 zs 0 = 0 ∧ vCnt 0 cnt 0 = cnt ∧ vDone 0 zs 0 = zs) := ⟨by simp [vSw], by simp [vCnt], by simp [vDone, vHit]⟩
            have HF := Lib.hid (HFIN.out wc (.int .i64 0) (.int .i64 cnt) zs HV0.out HO.out)
            clear hown hrow HFIN
            go_wp2
            obtain ⟨⟨j0, j1, j2⟩, -, -, -, -⟩ := blk3 HF.out.1
            refine bodyPost_ret (v := .agg #[.int .i64 0, .int .i64 cnt, .slice A zs.length cc]) (by simp [results, Try.results42, go_sem, j0, j1, j2]) rfl ?_
            rw [HA.out.1, HA.out.2.1, HA.out.2.2, HE.out.1, HE.out.2.1, HE.out.2.2]
            exact ⟨⟨_, _, _, rfl, HF.out.2.1⟩, HF.out.2.2⟩
          · have HE : Hid (vSw 1 zs 0 = 0 ∧ vCnt 1 cnt 0 = cnt + 1 ∧ vDone 1 zs 0 = zs) := ⟨by simp [vSw], by simp [vCnt], by simp [vDone, vHit]⟩
            have h2 := av_two (x' := .int .i64 0) (y' := .int .i64 (cnt + 1)) HG.out HO.out hd
            have HF := Lib.hid (HFIN.out _ (.int .i64 0) (.int .i64 (cnt + 1)) zs h2.1 h2.2.1)
            clear hown hrow HFIN h2
            go_wp2
            obtain ⟨⟨j0, j1, j2⟩, -, -, -, -⟩ := blk3 HF.out.1
            refine bodyPost_ret (v := .agg #[.int .i64 0, .int .i64 (cnt + 1), .slice A zs.length cc]) (by simp [results, Try.results42, go_sem, j0, j1, j2]) rfl ?_
            rw [HA.out.1, HA.out.2.1, HA.out.2.2, HE.out.1, HE.out.2.1, HE.out.2.2]
            exact ⟨⟨_, _, _, rfl, HF.out.2.1⟩, HF.out.2.2⟩
        · have hpz : ((P : Int) == 0) = false := by simp; omega
          have hpi : (0 : Int) < (P : Int) := by omega
          obtain ⟨⟨hl', ho'⟩, hi'⟩ := hown
          rcases ho' with ⟨e, e0'⟩ | ⟨b3, cap, cur, e, hlo3, hh3, hn3, hm3, hsz3, ht3⟩
          · exfalso; omega
          · injection e with e4 e5 e6
            subst e4 e6
            have hcell3 := hrow.cellAt P (by omega)
            rw [List.getElem?_map, List.getElem?_eq_getElem hP] at hcell3
            simp only [Option.map_some] at hcell3
            have hfr3 := hrow.frozenAt P
            have hb3 := hi' b3 rfl
            have hne3 : ¬ b3 = g := by omega
            have hzd : zs.getD P 0 = zs[P] := by simp [List.getD, List.getElem?_eq_getElem hP]
            rw [← hzd, ← HZ.out] at hcell3
            clear hrow hh3 ht3 hl' hi' e5 hm3
            by_cases hs0 : sw = 0
            · subst hs0
              by_cases hz0 : z = 0
              · subst hz0
                have hv : vHit 0 zs P = true := by unfold vHit; rw [← HZ.out]; simp [h0]
                have HE : Hid (vSw 0 zs P = 1 ∧ vCnt 0 cnt P = cnt ∧ vDone 0 zs P = zs.set P 1) := by
                  unfold Hid vSw vCnt vDone; rw [if_neg h0, if_pos hv, if_neg h0, if_pos hv]; exact ⟨rfl, rfl, rfl⟩
                have h3 := av_hit (p := P) HG.out HO.out hd ⟨hlo3, hb3⟩
                have HF := Lib.hid (HFIN.out _ (.int .i64 1) (.int .i64 cnt) (zs.set P 1) h3.1 h3.2.1)
                clear HFIN h3 hv hzd
                go_wp2
                obtain ⟨⟨j0, j1, j2⟩, -, -, -, -⟩ := blk3 HF.out.1
                refine bodyPost_ret (v := .agg #[.int .i64 1, .int .i64 cnt, .slice (some ⟨b3, 0, none⟩) zs.length cc]) (by simp [results, Try.results42, go_sem, j0, j1, j2]) rfl ?_
                rw [HA.out.1, HA.out.2.1, HA.out.2.2, HE.out.1, HE.out.2.1, HE.out.2.2]
                exact ⟨⟨_, _, _, rfl, HF.out.2.1⟩, HF.out.2.2⟩
              · have hv : vHit 0 zs P = false := by unfold vHit; rw [← HZ.out]; simp [hz0]
                have hzq : (z == 0) = false := by simpa using hz0
                have HE : Hid (vSw 0 zs P = 0 ∧ vCnt 0 cnt P = cnt ∧ vDone 0 zs P = zs) := by
                  unfold Hid vSw vCnt vDone; rw [if_neg h0, if_neg (by simp [hv]), if_neg h0, if_neg (by simp [hv])]; exact ⟨rfl, rfl, rfl⟩
                have HF := Lib.hid (HFIN.out wc (.int .i64 0) (.int .i64 cnt) zs HV0.out HO.out)
                clear HFIN hv hzd hz0
                go_wp2
                obtain ⟨⟨j0, j1, j2⟩, -, -, -, -⟩ := blk3 HF.out.1
                refine bodyPost_ret (v := .agg #[.int .i64 0, .int .i64 cnt, .slice (some ⟨b3, 0, none⟩) zs.length cc]) (by simp [results, Try.results42, go_sem, j0, j1, j2]) rfl ?_
                rw [HA.out.1, HA.out.2.1, HA.out.2.2, HE.out.1, HE.out.2.1, HE.out.2.2]
                exact ⟨⟨_, _, _, rfl, HF.out.2.1⟩, HF.out.2.2⟩
            · have hv : vHit sw zs P = false := by simp [vHit, hs0]
              have hsq : (sw == 0) = false := by simpa using hs0
              have HE : Hid (vSw sw zs P = sw ∧ vCnt sw cnt P = cnt ∧ vDone sw zs P = zs) := by
                unfold Hid vSw vCnt vDone; rw [if_neg h0, if_neg (by simp [hv]), if_neg h0, if_neg (by simp [hv])]; exact ⟨rfl, rfl, rfl⟩
              have HF := Lib.hid (HFIN.out wc (.int .i64 sw) (.int .i64 cnt) zs HV0.out HO.out)
              clear HFIN hv hzd hs0
              go_wp2
              obtain ⟨⟨j0, j1, j2⟩, -, -, -, -⟩ := blk3 HF.out.1
              refine bodyPost_ret (v := .agg #[.int .i64 sw, .int .i64 cnt, .slice (some ⟨b3, 0, none⟩) zs.length cc]) (by simp [results, Try.results42, go_sem, j0, j1, j2]) rfl ?_
              rw [HA.out.1, HA.out.2.1, HA.out.2.2, HE.out.1, HE.out.2.1, HE.out.2.2]
              exact ⟨⟨_, _, _, rfl, HF.out.2.1⟩, HF.out.2.2⟩
    · rw [hq]
      have hav : avB sw cnt zs q = false := by unfold avB; rw [hrb, hq]; rfl
      have HA := Lib.hid hav
      have HT := Lib.hid (set3 HK2.out (.int .i64 0) (.int .i64 0) (.slice none 0 0))
      have HB := Lib.hid (below_turned hb2 HT.out.2.1 (by omega) hb2.size)
      clear hav hq hb2 hR2
      go_wp2
      obtain ⟨⟨j0, j1, j2⟩, -, -, -, -⟩ := blk3 HT.out.1
      refine bodyPost_ret (v := .agg #[.int .i64 0, .int .i64 0, .slice none 0 0]) (by simp [results, Try.results42, go_sem, j0, j1, j2]) rfl ?_
      unfold avSw avCnt avDone
      rw [HA.out]
      exact ⟨⟨none, 0, 0, rfl, ⟨rfl, .inl ⟨rfl, rfl⟩⟩, fun k hk => by cases hk⟩, HB.out⟩
  · rw [hrb]
    have hav : avB sw cnt zs q = false := by unfold avB; rw [hrb]; rfl
    have HA := Lib.hid hav
    have HT := Lib.hid (set3 HK2.out (.int .i64 0) (.int .i64 0) (.slice none 0 0))
    have HB := Lib.hid (below_turned hb2 HT.out.2.1 (by omega) hb2.size)
    clear hav hrb hb2 hR2
    go_wp2
    obtain ⟨⟨j0, j1, j2⟩, -, -, -, -⟩ := blk3 HT.out.1
    refine bodyPost_ret (v := .agg #[.int .i64 0, .int .i64 0, .slice none 0 0]) (by simp [results, Try.results42, go_sem, j0, j1, j2]) rfl ?_
    unfold avSw avCnt avDone
    rw [HA.out]
    exact ⟨⟨none, 0, 0, rfl, ⟨rfl, .inl ⟨rfl, rfl⟩⟩, fun k hk => by cases hk⟩, HB.out⟩
end Go.Proofs.Ytnpfjpihcdlmhaa
