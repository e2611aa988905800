/- The tables of all runs. -/
import Derived.Test.YtcgpfdknadijlaaCoZ
import Derived.Test.YtcgpfdknadijlaaCoU
import Derived.Test.YtcgpfdknadijlaaCoE
import Derived.Maps.AppendAt
import Derived.BigQuiet
namespace Go.Proofs.Ytcgpfdknadijlaa
open Go.RowKit

theorem infoRow : (Try.prog.info? 23).map (fun i => (i.zero, i.size, i.bytes)) = some (some (.slice none 0 0), 1, 24) := by kernel_rfl
theorem Tab.bl {w0 w w' : World} {lo k m : Nat} {v : Value} {rb : Nat → Nat} (h : Tab w lo v k m rb) (hb : Below lo w0 w) (hlo : lo ≤ w.heap.size) {o o1 : Obj}
    (hg : ((w.alloc o1).alloc o).grownBy w' v.ownBlock) : Below lo w0 w' :=
  ((hb.alloc hlo o1).alloc (by simp; omega) o).trans ⟨hg.os, hg.tape, hg.output, hg.size, fun b hb' => hg.block b (by simp; omega) (fun e => by have := (h.own.lt b e.symm).1; omega)⟩

set_option maxHeartbeats 6400000 in
set_option maxRecDepth 100000 in
theorem l3Table_any (w : World) (v : Value) (zs : List Int) (h : Rd w v zs) (hp : priceB zs = true) :
    Calls Try.prog 23 #[v] w fun e w' => ∃ v5 g c rb F, e = .returned (.tuple #[v5, .slice (some ⟨g, 0, none⟩) (zs.length + 1) c]) ∧ Tb w' w.heap.size g (zs.length + 1) rb F ∧
      (∀ x y : Nat, x + 2 ≤ y → y ≤ zs.length → F x y = fstB zs x y) ∧ Below w.heap.size w w' := by
  have hbk := h
  obtain ⟨a, c, rfl, l1, m1, -⟩ := hbk
  obtain ⟨hl9, hz⟩ := priceB_yes hp
  have HR := Lib.hid h
  have HZ := Lib.hid hz
  clear h hz hp
  obtain ⟨i0, hi, hz0, hz1, hz2⟩ := info_parts infoInt
  obtain ⟨i1, hi1, hy0, hy1, hy2⟩ := info_parts infoRow
  have hmk : ∀ W : World, (Instr.makeSlice 23 (.int .i64 ((zs.length : Int) + 1)) (.int .i64 ((zs.length : Int) + 1))).run Try.prog W = .ok (.slice (some ⟨W.heap.size, 0, none⟩) (zs.length + 1) (zs.length + 1)) (W.alloc (.cells (madeCells #[.int .i64 0] (zs.length + 1)) 3)) := fun W => by
    have hr := run_make (P := Try.prog) W 23 3 i0 (.int .i64 0) Try.underlying23 hi hz0 .i64 .i64 ((zs.length : Int) + 1) ((zs.length : Int) + 1) (by omega) (by omega) (by rw [hz2]; omega) (by omega)
    rw [show ((zs.length : Int) + 1).toNat = zs.length + 1 by omega] at hr
    simpa [hz1, Value.cells] using hr
  obtain ⟨W0, hW0⟩ : ∃ W0, W0 = (w.alloc (.cells #[] 23)).alloc (.cells #[] 23) := ⟨_, rfl⟩
  have o5 : (w.alloc (.cells #[] 23)).ownsRow w.heap.size 23 1 (.slice (some ⟨w.heap.size, 0, none⟩) 0 0) 0 [] := World.ownsRow_lit w #[] 0 (Nat.le_refl _) (by simp) (by simp)
  have o6 : W0.ownsRow w.heap.size 23 1 (.slice (some ⟨w.heap.size + 1, 0, none⟩) 0 0) 0 [] := by
    have := World.ownsRow_lit (base := w.heap.size) (size := 1) (e := 23) (w.alloc (.cells #[] 23)) #[] 0 (by simp) (by simp) (by simp)
    rw [World.size_alloc] at this
    rw [hW0]; exact this
  have T5 : Hid (Tab W0 w.heap.size (.slice (some ⟨w.heap.size, 0, none⟩) 0 0) 0 (zs.length + 1) (fun _ => 0)) := ⟨by rw [hW0]; exact o5.alloc _, fun i hi => absurd hi (Nat.not_lt_zero _), fun i j hi => absurd hi (Nat.not_lt_zero _), fun i hi => absurd hi (Nat.not_lt_zero _)⟩
  have T6 : Hid (Tab W0 w.heap.size (.slice (some ⟨w.heap.size + 1, 0, none⟩) 0 0) 0 (zs.length + 1) (fun _ => 0)) := ⟨o6, fun i hi => absurd hi (Nat.not_lt_zero _), fun i j hi => absurd hi (Nat.not_lt_zero _), fun i hi => absurd hi (Nat.not_lt_zero _)⟩
  have AP : Hid (Apt (.slice (some ⟨w.heap.size, 0, none⟩) 0 0) (fun _ => 0) 0 (.slice (some ⟨w.heap.size + 1, 0, none⟩) 0 0) (fun _ => 0) 0) :=
    ⟨fun b hb hb2 => by simp [Value.ownBlock] at hb hb2; omega, fun i hi => absurd hi (Nat.not_lt_zero _), fun i hi => absurd hi (Nat.not_lt_zero _), fun i j hi => absurd hi (Nat.not_lt_zero _)⟩
  have HB : Hid (Below w.heap.size w W0) := by
    rw [hW0]; exact ((Below.refl _ w).alloc (Nat.le_refl _) _).alloc (by simp) _
  have HW := Lib.hid hW0
  clear hW0 o5 o6
  go_enter Try.func23, Try.ntmps23
  go_wp2_with fail
  rw [← HW.out]
  clear HW
  go_loopw [5, 6, 7] (fun s5 s6 s7 wr => ∃ (k : Nat) (rb5 rb6 : Nat → Nat), k ≤ zs.length + 1 ∧ s7 = .int .i64 k ∧ Hid (Tab wr w.heap.size s5 k (zs.length + 1) rb5) ∧ Hid (Tab wr w.heap.size s6 k (zs.length + 1) rb6) ∧ Hid (Apt s5 rb5 k s6 rb6 k) ∧ Hid (Below w.heap.size w wr))
    (fun _ _ s7 _ => zs.length + 1 - (intOf s7).toNat)
  case atStart => exact ⟨0, _, _, by omega, rfl, T5, T6, AP, HB⟩
  case round =>
    clear T5 T6 AP HB
    obtain ⟨k, rb5, rb6, hk, rfl, T5, T6, AP, HB⟩ := hrel
    obtain ⟨wk, hwk⟩ : ∃ wk, wk = wr := ⟨_, rfl⟩
    subst hwk
    by_cases hkl : k ≤ zs.length
    · have hs0 : w.heap.size ≤ wk.heap.size := HB.out.size
      go_wp2_with (first | (at_builtin; refine wpList_append_own_at _ rfl _ _ 44 rfl w.heap.size 23 i1 (.slice none 0 0) 1 24 Try.underlying44 hi1 hy0 hy1 hy2 rfl (by decide) _ _ _ rfl ((T5.out.own.alloc _).alloc _) ⟨wk.heap.size + 1, 0, none⟩ 1 1 [.slice (some ⟨wk.heap.size, 0, none⟩) (zs.length + 1) (zs.length + 1)] rfl rfl (one_new2 _ _ _ _) ?c2 ?c3 ?c4 ?c5 ?_) | fail)
      case c2 => intro u hu; rw [List.mem_singleton.1 hu]; rfl
      case c3 => unfold maxLen; omega
      case c4 => omega
      case c5 => simp; omega
      intro v7 w5 hown7 hgr7 _ hat7
      have A5 := Lib.hid (Tab.push T5.out hs0 hown7 hgr7 (by rw [World.size_alloc, World.size_alloc]; exact hat7))
      have A6 := Lib.hid (Tab.other T5.out T6.out AP.out hgr7 (by rw [World.size_alloc, World.size_alloc]; exact hat7))
      have HB5 := Lib.hid (Tab.bl T5.out HB.out hs0 hgr7)
      clear hown7 hgr7 hat7 T5 T6 AP HB hs0
      have hs0 : w.heap.size ≤ w5.heap.size := HB5.out.size
      go_wp2_with (first | (at_builtin; refine wpList_append_own_at _ rfl _ _ 44 rfl w.heap.size 23 i1 (.slice none 0 0) 1 24 Try.underlying44 hi1 hy0 hy1 hy2 rfl (by decide) _ _ _ rfl ((A6.out.1.own.alloc _).alloc _) ⟨w5.heap.size + 1, 0, none⟩ 1 1 [.slice (some ⟨w5.heap.size, 0, none⟩) (zs.length + 1) (zs.length + 1)] rfl rfl (one_new2 _ _ _ _) ?c2 ?c3 ?c4 ?c5 ?_) | fail)
      case c2 => intro u hu; rw [List.mem_singleton.1 hu]; rfl
      case c3 => unfold maxLen; omega
      case c4 => omega
      case c5 => simp; omega
      intro v8 w6 hown8 hgr8 _ hat8
      have B6 := Lib.hid (Tab.push A6.out.1 hs0 hown8 hgr8 (by rw [World.size_alloc, World.size_alloc]; exact hat8))
      have B5 := Lib.hid (Tab.other A6.out.1 A5.out A6.out.2.symm hgr8 (by rw [World.size_alloc, World.size_alloc]; exact hat8))
      have HB6 := Lib.hid (Tab.bl A6.out.1 HB5.out hs0 hgr8)
      clear hown8 hgr8 hat8 A5 A6 HB5 hs0
      go_wp2
      go_roundw
      case rel => exact ⟨k + 1, _, _, by omega, by go_num, B5.out.1, B6, B5.out.2.symm, HB6⟩
      case measure => simp [intOf]; omega
    · have hke : k = zs.length + 1 := by omega
      rw [hke] at T5 T6 AP
      obtain ⟨g5, c5, e5, hc5, hc5', -, tb5⟩ := T5.out.tb (by omega)
      obtain ⟨g6, c6, e6, hc6, hc6', -, tb6⟩ := T6.out.tb (by omega)
      subst e5 e6
      have APB := Lib.hid AP.out.tb
      have TB5 := Lib.hid tb5
      have TB6 := Lib.hid tb6
      clear T5 T6 AP tb5 tb6 hi hz0 hz1 hz2 hi1 hy0 hy1 hy2 hmk hke
      go_wp2_with fail
      generalize decide ((k : Int) ≤ (zs.length : Int)) = D9
      clear hk hkl
      go_loopw [8, 9, 10, 11, 12, 13] (fun s8 s9 s10 s11 s12 s13 wr => ∃ (L : Nat) (C F : Int → Int → Int), 2 ≤ L ∧ (L ≤ zs.length + 1 ∨ L = 2) ∧ s8 = .int .i64 L ∧ Hid (Tb wr w.heap.size g5 (zs.length + 1) rb5 C) ∧ Hid (Tb wr w.heap.size g6 (zs.length + 1) rb6 F) ∧ Hid (NInv zs C L 0) ∧ Hid (FInv2 zs F L 0) ∧ Hid (Below w.heap.size w wr))
        (fun s8 _ _ _ _ _ _ => zs.length + 1 - (intOf s8).toNat)
      case atStart => exact ⟨2, _, _, by omega, by omega, rfl, TB5, TB6, NInv.start2 zs, FInv2.start zs, HB⟩
      case round =>
        clear TB5 TB6 HB
        obtain ⟨L, C, F, hL1, hL2, rfl, TB5, TB6, HN, HF, HB⟩ := hrel
        obtain ⟨wk, hwk⟩ : ∃ wk, wk = wr := ⟨_, rfl⟩
        subst hwk
        by_cases hL : L ≤ zs.length
        · go_wp2_with fail
          go_loopw [9, 10, 11, 12, 13] (fun s9 s10 s11 s12 s13 wr => ∃ (j : Nat) (C F : Int → Int → Int), j + L ≤ zs.length + 1 ∧ s9 = .int .i64 j ∧ Hid (Tb wr w.heap.size g5 (zs.length + 1) rb5 C) ∧ Hid (Tb wr w.heap.size g6 (zs.length + 1) rb6 F) ∧ Hid (NInv zs C L j) ∧ Hid (FInv2 zs F L j) ∧ Hid (Below w.heap.size w wr))
            (fun s9 _ _ _ _ _ => zs.length + 1 - (intOf s9).toNat)
          case atStart => exact ⟨0, _, _, by omega, rfl, TB5, TB6, HN, HF, HB⟩
          case round =>
            clear TB5 TB6 HN HF HB
            obtain ⟨f, C, F, hf, rfl, TB5, TB6, HN, HF, HB⟩ := hrel
            obtain ⟨wk, hwk⟩ : ∃ wk, wk = wr := ⟨_, rfl⟩
            subst hwk
            by_cases hfl : f + L ≤ zs.length
            · go_wp2_with fail
              obtain ⟨t, ht⟩ : ∃ t, t = f + L := ⟨_, rfl⟩
              rw [show (f : Int) + (L : Int) = (t : Int) by omega]
              generalize decide ((t : Int) ≤ (zs.length : Int)) = D8
              have HTE := Lib.hid ht
              have ht9 : t ≤ zs.length := by omega
              have hft : f + 2 ≤ t := by omega
              have HN' : Hid (∀ x y : Nat, f ≤ x → x ≤ y → y ≤ t → y - x < t - f → C x y = opt zs x y) := fun x y h1 h2 h3 h4 => (HN.out x y h2 (by omega)).1 (.inl (by omega))
              clear ht
              go_loopw [11, 12, 13] (fun s11 s12 s13 wr => ∃ (i k : Nat) (b : Int) (F' : Int → Int → Int), Hid (k = f + i ∧ b = (scanB (stepW zs f t) f i).1 ∧ (0 < i → F' f t = ((scanB (stepW zs f t) f i).2 : Nat)) ∧ ∀ x y, ¬(x = (f : Int) ∧ y = (t : Int)) → F' x y = F x y) ∧ k ≤ t ∧ s11 = .int .i64 b ∧ s12 = .int .i64 k ∧ Hid (Tb wr w.heap.size g5 (zs.length + 1) rb5 C) ∧ Hid (Tb wr w.heap.size g6 (zs.length + 1) rb6 F') ∧ Hid (Below w.heap.size w wr))
                (fun _ s12 _ _ => t - (intOf s12).toNat)
              case atStart => exact ⟨0, f, -1, F, ⟨by omega, rfl, fun h => absurd h (Nat.lt_irrefl _), fun _ _ _ => rfl⟩, by omega, by go_num, rfl, TB5, TB6, HB⟩
              case round =>
                clear TB5 TB6 HB
                obtain ⟨i, k, b, F', hj, hk, rfl, rfl, TB5, TB6, HB⟩ := hrel
                obtain ⟨wk, hwk⟩ : ∃ wk, wk = wr := ⟨_, rfl⟩
                subst hwk
                have hfk : f ≤ k := by have := hj.out.1; omega
                by_cases hkt : k < t
                · obtain ⟨a9, c9, e9, l9, m9, r9⟩ := HR.out.below HB.out
                  injection e9 with e8 e9 e7
                  subst e8 e7
                  obtain ⟨g, off, z, rfl, hg, x1, HZ1⟩ := rd_at r9 k (by omega)
                  have hzb := price_at HZ.out k
                  obtain ⟨A, hAe⟩ : ∃ A, opt zs f k = A := ⟨_, rfl⟩
                  obtain ⟨B, hBe⟩ : ∃ B, opt zs (k + 1) t = B := ⟨_, rfl⟩
                  have hAb : 0 ≤ opt zs f k ∧ opt zs f k ≤ 450 := by have := opt_bd HZ.out _ f k (Nat.le_refl _); omega
                  have hBb : 0 ≤ opt zs (k + 1) t ∧ opt zs (k + 1) t ≤ 450 := by have := opt_bd HZ.out _ (k + 1) t (Nat.le_refl _); omega
                  have hSe : stepW zs f t k = z + max A B := by unfold stepW; rw [hAe, hBe, HZ1.out]
                  have q1 := TB5.out.cell f (by omega)
                  have q2 := (TB5.out.num f k (by omega) (by omega)).1
                  have q3 := TB5.out.cell (k + 1) (by omega)
                  have q4 := (TB5.out.num (k + 1) t (by omega) (by omega)).1
                  rw [HN'.out f k (Nat.le_refl _) hfk (by omega) (by omega), hAe] at q2
                  rw [HN'.out (k + 1) t (by omega) (by omega) (Nat.le_refl _) (by omega), hBe] at q4
                  rw [hAe] at hAb
                  rw [hBe] at hBb
                  rw [← HZ1.out] at hzb
                  obtain ⟨M, hM⟩ : ∃ M, max A B = M := ⟨_, rfl⟩
                  rw [hM] at hSe
                  have hMc : (B ≤ A ∧ M = A) ∨ (¬ B ≤ A ∧ M = B) := by omega
                  have hb2 : -1 ≤ b ∧ b ≤ 450 := by
                    have h9 := scan_bd (f := f) (t := t) HZ.out (by omega) i (by have h8 := hj.out.1; omega)
                    rw [← hj.out.2.1] at h9; omega
                  have HS := Lib.hid hSe
                  have HMM := Lib.hid hM
                  clear hAe hBe hSe hM r9
                  have hib : i ≤ 9 := by have := hj.out.1; omega
                  have hcond : (b < 0 ∨ (¬ b < 0 ∧ z + M < b)) ∨ (¬ b < 0 ∧ ¬ z + M < b) := by omega
                  have hk1 : ((k : Int) + 1).toNat = k + 1 := by omega
                  rcases hMc with ⟨hab, rfl⟩ | ⟨hab, rfl⟩
                  · skip
                    go_wp2_with fail
                    go_quiet (fail)
                    have TB8 := Lib.hid (TB5.out.drewN nq)
                    have TB9 := Lib.hid (TB6.out.drewN nq)
                    have HB8 := Lib.hid (below_drewN HB.out nq)
                    generalize wk.drewN nq = w8 at *
                    clear x1 q1 q2 q3 q4 TB5 TB6 HB
                    rcases hcond with hc | hc
                    · have HSC := Lib.hid (scan_new hj.out.2.1 hj.out.1 (by rw [HS.out]; omega))
                      have d1 := TB9.out.cell f (by omega)
                      obtain ⟨d2, d3⟩ := TB9.out.num f t (by omega) (by omega)
                      rcases hc with hc | ⟨hc, hc'⟩
                      all_goals
                        go_wp2_with fail
                        go_roundw
                        case rel => exact ⟨i + 1, k + 1, _, _, ⟨by have := hj.out.1; omega, by rw [HSC.out, HS.out], fun _ => by rw [HSC.out, updF_same], fun x y hxy => (updF_other hxy).trans (hj.out.2.2.2 x y hxy)⟩, by omega, rfl, by go_num, TB8.out.beside APB.out (by omega) t k, TB9.out.set (by omega) (by omega) k, below_set HB8.out (TB9.out.low.2 f (by omega))⟩
                        case measure => simp [intOf]; omega
                    · have HSC := Lib.hid (scan_old hj.out.2.1 hj.out.1 (by rw [HS.out]; omega))
                      obtain ⟨hc, hc'⟩ := hc
                      have HI0 : Hid (0 < i) := by
                        rcases i with _ | i
                        · have h9 := hj.out.2.1
                          simp only [scanB] at h9; omega
                        · exact Nat.succ_pos _
                      go_wp2_with fail
                      go_roundw
                      case rel => exact ⟨i + 1, k + 1, b, F', ⟨by have := hj.out.1; omega, by rw [HSC.out]; exact hj.out.2.1, fun _ => by rw [HSC.out]; exact hj.out.2.2.1 HI0.out, hj.out.2.2.2⟩, by omega, rfl, by go_num, TB8, TB9, HB8⟩
                      case measure => simp [intOf]; omega
                  · skip
                    go_wp2_with fail
                    go_quiet (fail)
                    have TB8 := Lib.hid (TB5.out.drewN nq)
                    have TB9 := Lib.hid (TB6.out.drewN nq)
                    have HB8 := Lib.hid (below_drewN HB.out nq)
                    generalize wk.drewN nq = w8 at *
                    clear x1 q1 q2 q3 q4 TB5 TB6 HB
                    rcases hcond with hc | hc
                    · have HSC := Lib.hid (scan_new hj.out.2.1 hj.out.1 (by rw [HS.out]; omega))
                      have d1 := TB9.out.cell f (by omega)
                      obtain ⟨d2, d3⟩ := TB9.out.num f t (by omega) (by omega)
                      rcases hc with hc | ⟨hc, hc'⟩
                      all_goals
                        go_wp2_with fail
                        go_roundw
                        case rel => exact ⟨i + 1, k + 1, _, _, ⟨by have := hj.out.1; omega, by rw [HSC.out, HS.out], fun _ => by rw [HSC.out, updF_same], fun x y hxy => (updF_other hxy).trans (hj.out.2.2.2 x y hxy)⟩, by omega, rfl, by go_num, TB8.out.beside APB.out (by omega) t k, TB9.out.set (by omega) (by omega) k, below_set HB8.out (TB9.out.low.2 f (by omega))⟩
                        case measure => simp [intOf]; omega
                    · have HSC := Lib.hid (scan_old hj.out.2.1 hj.out.1 (by rw [HS.out]; omega))
                      obtain ⟨hc, hc'⟩ := hc
                      have HI0 : Hid (0 < i) := by
                        rcases i with _ | i
                        · have h9 := hj.out.2.1
                          simp only [scanB] at h9; omega
                        · exact Nat.succ_pos _
                      go_wp2_with fail
                      go_roundw
                      case rel => exact ⟨i + 1, k + 1, b, F', ⟨by have := hj.out.1; omega, by rw [HSC.out]; exact hj.out.2.1, fun _ => by rw [HSC.out]; exact hj.out.2.2.1 HI0.out, hj.out.2.2.2⟩, by omega, rfl, by go_num, TB8, TB9, HB8⟩
                      case measure => simp [intOf]; omega
                · have hkt' : k = t := by omega
                  subst hkt'
                  have hi' : i = k - f := by have := hj.out.1; omega
                  have HI0 : Hid (0 < i) := by show 0 < i; omega
                  have HBE : Hid (b = opt zs f k) := by
                    have h5 := hj.out.2.1
                    rw [hi'] at h5
                    exact h5.trans (opt_eq (by omega)).symm
                  have HFE : Hid (F' f k = fstB zs f k) := by
                    have h5 := hj.out.2.2.1 HI0.out
                    rw [hi'] at h5
                    rw [h5]; unfold fstB; rw [if_neg (by omega)]; exact Lib.hid rfl
                  have hb2 : -1 ≤ b ∧ b ≤ 450 := by
                    have h9 := scan_bd (f := f) (t := k) HZ.out (by omega) i (by have h8 := hj.out.1; omega)
                    rw [← hj.out.2.1] at h9; omega
                  have d1 := TB5.out.cell f (by omega)
                  obtain ⟨d2, d3⟩ := TB5.out.num f k (by omega) (by omega)
                  have HN5 := Lib.hid (HN.out.step (N' := updF C f k b) (by rw [← HTE.out, updF_same]; exact HBE.out) (by rw [← HTE.out]; exact fun x y hxy => updF_other hxy))
                  have HF5 := Lib.hid (HF.out.step (F' := F') (by rw [← HTE.out]; exact HFE.out) (by rw [← HTE.out]; exact hj.out.2.2.2))
                  have TB55 := Lib.hid (TB5.out.set (i := f) (j := k) (by omega) (by omega) b)
                  have TB66 := Lib.hid (TB6.out.beside APB.out.symm (i := f) (by omega) k b)
                  have HB55 := Lib.hid (below_set (b := rb5 f) (j := k) (v := .int .i64 b) HB.out (TB5.out.low.2 f (by omega)))
                  have hft9 : f + 1 + L ≤ zs.length + 1 := by omega
                  have HFT := Lib.hid hft9
                  clear hi' hft9
                  go_wp2_with fail
                  go_roundw
                  case rel => exact ⟨f + 1, _, _, HFT.out, by go_num, TB55, TB66, HN5, HF5, HB55⟩
                  case measure => simp [intOf]; omega
            · go_wp2_with fail
              go_roundw
              case rel => exact ⟨L + 1, C, F, by omega, by omega, by go_num, TB5, TB6, HN.out.up (by omega), HF.out.up (by omega), HB⟩
              case measure => simp [intOf]; omega
        · go_wp2
          refine bodyPost_ret (v := .tuple #[.slice (some ⟨g5, 0, none⟩) (zs.length + 1) c5, .slice (some ⟨g6, 0, none⟩) (zs.length + 1) c6]) (by simp [results, Try.results23, go_sem]) rfl ?_
          exact ⟨_, g6, c6, rb6, F, rfl, TB6.out, fun x y hx hy => HF.out x y hx hy (.inl (by omega)), HB.out⟩
end Go.Proofs.Ytcgpfdknadijlaa
