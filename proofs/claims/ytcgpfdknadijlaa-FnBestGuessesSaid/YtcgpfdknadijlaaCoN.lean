/- What one run needs is settled. -/
import Derived.Test.YtcgpfdknadijlaaCoM
import Derived.Test.YtcgpfdknadijlaaCoQ
import Derived.BigRegion
namespace Go.Proofs.Ytcgpfdknadijlaa
open Go.RowKit

/-- The plans lie in block q, their maps in b1 and b2. -/
def PlansAt (w0 w : World) (q b1 b2 : Nat) (a : Option Addr) (zs : List Int) (c : Nat) : Prop :=
  w.heap[q]? = some (.cells #[.slice a zs.length c, .map (some b1), .map (some b2)] 55 (0, 0)) ∧ b1 ≠ b2 ∧ q ≠ b1 ∧ q ≠ b2 ∧ w0.heap.size ≤ b1 ∧ w0.heap.size ≤ b2 ∧ w0.heap.size ≤ q ∧ Below w0.heap.size w0 w
theorem PlansAt.alloc {w0 w : World} {q b1 b2 c : Nat} {a : Option Addr} {zs : List Int} (h : PlansAt w0 w q b1 b2 a zs c) (o : Obj) : PlansAt w0 (w.alloc o) q b1 b2 a zs c := by
  obtain ⟨h1, h2, h3, h4, h5, h6, h7, h8⟩ := h
  exact ⟨(Below.heap_alloc _ _ _ (Array.getElem?_eq_some_iff.1 h1).1).trans h1, h2, h3, h4, h5, h6, h7, h8.alloc h8.size _⟩
theorem PlansAt.drew {w0 w : World} {q b1 b2 c : Nat} {a : Option Addr} {zs : List Int} (h : PlansAt w0 w q b1 b2 a zs c) : PlansAt w0 w.drew q b1 b2 a zs c :=
  ⟨h.1, h.2.1, h.2.2.1, h.2.2.2.1, h.2.2.2.2.1, h.2.2.2.2.2.1, h.2.2.2.2.2.2.1, ⟨h.2.2.2.2.2.2.2.os, h.2.2.2.2.2.2.2.tape, h.2.2.2.2.2.2.2.output, h.2.2.2.2.2.2.2.size, h.2.2.2.2.2.2.2.block⟩⟩
theorem PlansAt.drewN {w0 w : World} {q b1 b2 c : Nat} {a : Option Addr} {zs : List Int} (h : PlansAt w0 w q b1 b2 a zs c) (k : Nat) : PlansAt w0 (w.drewN k) q b1 b2 a zs c :=
  ⟨h.1, h.2.1, h.2.2.1, h.2.2.2.1, h.2.2.2.2.1, h.2.2.2.2.2.1, h.2.2.2.2.2.2.1, below_drewN h.2.2.2.2.2.2.2 k⟩
theorem PlansAt.grown1 {w0 w w' : World} {q b1 b2 c : Nat} {a : Option Addr} {zs : List Int} (h : PlansAt w0 w q b1 b2 a zs c) (hg : w.grownBy w' (some b1)) : PlansAt w0 w' q b1 b2 a zs c := by
  obtain ⟨h1, h2, h3, h4, h5, h6, h7, h8⟩ := h
  refine ⟨(hg.block q (Array.getElem?_eq_some_iff.1 h1).1 (by simpa using h3)).trans h1, h2, h3, h4, h5, h6, h7, h8.trans ⟨hg.os, hg.tape, hg.output, hg.size, fun k hk => hg.block k (Nat.lt_of_lt_of_le hk h8.size) (by simp; omega)⟩⟩
theorem PlansAt.grown2 {w0 w w' : World} {q b1 b2 c : Nat} {a : Option Addr} {zs : List Int} (h : PlansAt w0 w q b1 b2 a zs c) (hg : w.grownBy w' (some b2)) : PlansAt w0 w' q b1 b2 a zs c := by
  obtain ⟨h1, h2, h3, h4, h5, h6, h7, h8⟩ := h
  refine ⟨(hg.block q (Array.getElem?_eq_some_iff.1 h1).1 (by simpa using h4)).trans h1, h2, h3, h4, h5, h6, h7, h8.trans ⟨hg.os, hg.tape, hg.output, hg.size, fun k hk => hg.block k (Nat.lt_of_lt_of_le hk h8.size) (by simp; omega)⟩⟩
theorem PlansAt.cells {w0 w : World} {q b1 b2 c : Nat} {a : Option Addr} {zs : List Int} (h : PlansAt w0 w q b1 b2 a zs c) :
    w.cell? ⟨q, 0, none⟩ = some (.slice a zs.length c) ∧ w.cell? ⟨q, 1, none⟩ = some (.map (some b1)) ∧ w.cell? ⟨q, 2, none⟩ = some (.map (some b2)) := by
  refine ⟨?_, ?_, ?_⟩ <;> (rw [cell_of_row w q _ _ _ _ h.1]; rfl)

theorem scan_bd {zs : List Int} (h : ∀ z ∈ zs, 0 ≤ z ∧ z ≤ 50) {f t : Nat} (ht : t ≤ 9) : ∀ j, f + j ≤ t → -1 ≤ (scanB (stepW zs f t) f j).1 ∧ (scanB (stepW zs f t) f j).1 ≤ 450 ∧ f ≤ (scanB (stepW zs f t) f j).2 ∧ (scanB (stepW zs f t) f j).2 ≤ t
  | 0, hj => ⟨by simp [scanB], by simp [scanB], by simp [scanB], by simp [scanB]; omega⟩
  | j + 1, hj => by
    obtain ⟨i1, i2, i3, i4⟩ := scanB_is j fun k k1 k2 => (stepW_bd h (f := f) (t := t) k1 (by omega)).1
    have := stepW_bd h i2 (show _ < t by omega)
    rw [i1]; omega

theorem scan_new {c : Nat → Int} {f j k : Nat} {b : Int} (hb : b = (scanB c f j).1) (hk : k = f + j) (h : b < 0 ∨ c k < b) : scanB c f (j + 1) = (c k, k) := by
  subst hk hb; simp only [scanB, if_pos h]
theorem scan_old {c : Nat → Int} {f j k : Nat} {b : Int} (hb : b = (scanB c f j).1) (hk : k = f + j) (h : ¬ (b < 0 ∨ c k < b)) : scanB c f (j + 1) = scanB c f j := by
  subst hk hb; simp only [scanB, if_neg h]

set_option maxHeartbeats 6400000 in
set_option maxRecDepth 100000 in
theorem settle_any (w0 w : World) (q b1 b2 n m : Nat) (a : Option Addr) (zs : List Int) (c : Nat) (N F : Int → Int → Int) (f t : Nat) (h0 : Rd w0 (.slice a zs.length c) zs) (hz : ∀ z ∈ zs, 0 ≤ z ∧ z ≤ 50) (hl : zs.length ≤ 9)
    (hp : PlansAt w0 w q b1 b2 a zs c) (h1 : MapF w b1 n N) (h2 : MapF w b2 m F) (hft : f < t) (htl : t ≤ zs.length) (hn : n < 1000) (hm : m < 1000)
    (hN : ∀ x y : Nat, f ≤ x → x ≤ y → y ≤ t → y - x < t - f → N x y = opt zs x y) (hN0 : N f t = 0) :
    Calls Try.prog 36 #[.pointer (some ⟨q, 0, none⟩), .agg #[.int .i64 f, .int .i64 t]] w fun e w' => e = .returned (.tuple #[]) ∧ PlansAt w0 w' q b1 b2 a zs c ∧
      (∃ N', MapF w' b1 (n + 1) N' ∧ N' f t = opt zs f t ∧ ∀ x y, ¬(x = (f : Int) ∧ y = (t : Int)) → N' x y = N x y) ∧ (∃ F', MapF w' b2 (m + 10) F' ∧ F' f t = fstB zs f t ∧ ∀ x y, ¬(x = (f : Int) ∧ y = (t : Int)) → F' x y = F x y) := by
  have hp1 := hp.alloc (.cells #[.int .i64 f, .int .i64 t] 43)
  have hm1 := h1.keep (Below.heap_alloc w (.cells #[.int .i64 f, .int .i64 t] 43) b1 h1.lt)
  have hm2 := h2.keep (Below.heap_alloc w (.cells #[.int .i64 f, .int .i64 t] 43) b2 h2.lt)
  have hbx : (w.alloc (.cells #[.int .i64 f, .int .i64 t] 43)).heap[w.heap.size]? = some (.cells #[.int .i64 f, .int .i64 t] 43) := (MapKept.heap_alloc w _).1
  obtain ⟨p, hpe⟩ : ∃ p, p = w.heap.size := ⟨_, rfl⟩
  have hpb : p ≠ b1 ∧ p ≠ b2 := by have := h1.lt; have := h2.lt; omega
  rw [← hpe] at hbx
  obtain ⟨w1, hw1⟩ : ∃ w1, w1 = w.alloc (.cells #[.int .i64 f, .int .i64 t] 43) := ⟨_, rfl⟩
  rw [← hw1] at hp1 hm1 hm2 hbx
  obtain ⟨w2, hput, hm2', hg2⟩ := (hm2.keep (w' := w1.drew) rfl).put (x := f) (y := t) (z := f) (by omega) (by omega) (by omega) (by omega)
  have hp2 := hp1.drew.grown2 hg2
  have hb2 : w2.heap[p]? = some (.cells #[.int .i64 f, .int .i64 t] 43) := (hg2.block p (Array.getElem?_eq_some_iff.1 hbx).1 (by simp; omega)).trans hbx
  have hm1' : MapF w2 b1 n N := hm1.keep (hg2.block b1 hm1.lt (by have := hp.2.1; simp; omega))
  have HP2 := Lib.hid hp2
  have HB2 := Lib.hid hb2
  have HM1 := Lib.hid hm1'
  have HM2 := Lib.hid hm2'
  have HW1 := Lib.hid hw1
  have HPE := Lib.hid hpe
  obtain ⟨c0, c1, c2⟩ := hp1.cells
  have d0 : w1.cell? ⟨p, 0, none⟩ = some (.int .i64 f) := by rw [cell_of_row w1 p _ _ _ _ hbx]; rfl
  have d1 : w1.cell? ⟨p, 1, none⟩ = some (.int .i64 t) := by rw [cell_of_row w1 p _ _ _ _ hbx]; rfl
  obtain ⟨e0, e1, e2⟩ := hp2.cells
  have g0 : w2.cell? ⟨p, 0, none⟩ = some (.int .i64 f) := by rw [cell_of_row w2 p _ _ _ _ hb2]; rfl
  have g1 : w2.cell? ⟨p, 1, none⟩ = some (.int .i64 t) := by rw [cell_of_row w2 p _ _ _ _ hb2]; rfl
  clear hp1 hm1 hm2 hbx hm2' hg2 hp2 hb2 hm1' hp h1 h2 hw1 hpe
  have ht9 : t ≤ 9 := by omega
  by_cases hone : t = f + 1
  · have ho : ((t : Int) - (f : Int) == 1) = true := by rw [beq_iff_eq]; omega
    have HONE := Lib.hid hone
    clear hone
    go_enter Try.func36, Try.ntmps36
    go_wp2_with fail
    rw [← HW1.out, ← HPE.out]
    go_region
    all_goals go_wp2
    all_goals refine bodyPost_ret (v := .tuple #[]) (by simp [results, Try.results36, go_sem]) rfl ?_
    all_goals exact ⟨rfl, HP2.out, ⟨N, HM1.out.mono (by omega), by rw [hN0, opt_small (by have := HONE.out; omega)], fun _ _ _ => rfl⟩, ⟨_, HM2.out.mono (by omega), by rw [updF_same]; simp [fstB, show t ≤ f + 1 by have := HONE.out; omega], fun x y hxy => updF_other hxy⟩⟩
  · have ho : ((t : Int) - (f : Int) == 1) = false := by rw [beq_eq_false_iff_ne]; omega
    have HO := Lib.hid h0
    have HN := Lib.hid hN
    have HPB := Lib.hid hpb
    have HONE := Lib.hid hone
    clear h0 hN hpb hone
    go_enter Try.func36, Try.ntmps36
    go_wp2_with fail
    rw [← HW1.out, ← HPE.out]
    go_region
    go_wp2_with fail
    clear c0 c1 c2 d0 d1 hput e0 e1 e2 g0 g1
    go_loopw [4, 5, 6] (fun bst g s wr => ∃ (j k : Nat) (b : Int) (F' : Int → Int → Int), Hid (k = f + j ∧ b = (scanB (stepW zs f t) f j).1 ∧ F' f t = ((scanB (stepW zs f t) f j).2 : Nat) ∧ ∀ x y, ¬(x = (f : Int) ∧ y = (t : Int)) → F' x y = F x y) ∧ k ≤ t ∧ bst = .int .i64 b ∧ g = .int .i64 k ∧ Hid (PlansAt w0 wr q b1 b2 a zs c) ∧ Hid (MapF wr b1 n N) ∧ Hid (MapF wr b2 (m + 1 + j) F') ∧ Hid (wr.heap[p]? = some (.cells #[.int .i64 f, .int .i64 t] 43)))
      (fun _ g _ _ => t - (intOf g).toNat)
    case atStart => exact ⟨0, f, -1, _, ⟨by omega, rfl, by rw [updF_same]; rfl, fun x y hxy => updF_other hxy⟩, by omega, rfl, by go_num, HP2, HM1, HM2, HB2⟩
    case round =>
      clear HP2 HM1 HM2 HB2
      obtain ⟨j, k, b, F', hj, hk, rfl, rfl, hP, hA, hB, hbx⟩ := hrel
      obtain ⟨wk, hwk⟩ : ∃ wk, wk = wr := ⟨_, rfl⟩
      subst hwk
      obtain ⟨e0, e1, e2⟩ := hP.out.cells
      have g0 : wk.cell? ⟨p, 0, none⟩ = some (.int .i64 f) := by rw [cell_of_row wk p _ _ _ _ hbx.out]; rfl
      have g1 : wk.cell? ⟨p, 1, none⟩ = some (.int .i64 t) := by rw [cell_of_row wk p _ _ _ _ hbx.out]; rfl
      have hfk : f ≤ k := by have := hj.out.1; omega
      by_cases hkt : k < t
      · obtain ⟨a9, c9, e9, l9, m9, r9⟩ := HO.out.below hP.out.2.2.2.2.2.2.2
        injection e9 with e8 e9 e7
        subst e8 e7
        obtain ⟨g, off, z, rfl, hg, x1, HZ⟩ := rd_at r9 k (by omega)
        have hzb := price_at hz k
        obtain ⟨A, hAe⟩ : ∃ A, opt zs f k = A := ⟨_, rfl⟩
        obtain ⟨B, hBe⟩ : ∃ B, opt zs (k + 1) t = B := ⟨_, rfl⟩
        have hAb : 0 ≤ opt zs f k ∧ opt zs f k ≤ 450 := by have := opt_bd hz _ f k (Nat.le_refl _); omega
        have hBb : 0 ≤ opt zs (k + 1) t ∧ opt zs (k + 1) t ≤ 450 := by have := opt_bd hz _ (k + 1) t (Nat.le_refl _); omega
        have hSe : stepW zs f t k = z + max A B := by unfold stepW; rw [hAe, hBe, HZ.out]
        have lA := fun n9 => (hA.out.keep (w' := wk.drewN n9) rfl).look (x := f) (y := k) (by omega) (by omega)
        have lB := fun n9 => (hA.out.keep (w' := wk.drewN n9) rfl).look (x := (k : Int) + 1) (y := t) (by omega) (by omega)
        simp only [HN.out f k (Nat.le_refl _) hfk (by omega) (by omega), hAe] at lA
        have hNB := HN.out (k + 1) t (by omega) (by omega) (Nat.le_refl _) (by omega)
        rw [hBe, show ((k + 1 : Nat) : Int) = (k : Int) + 1 by omega] at hNB
        simp only [hNB] at lB
        clear hNB
        rw [hAe] at hAb
        rw [hBe] at hBb
        rw [← HZ.out] at hzb
        obtain ⟨M, hM⟩ : ∃ M, max A B = M := ⟨_, rfl⟩
        rw [hM] at hSe
        have hMc : (B ≤ A ∧ M = A) ∨ (¬ B ≤ A ∧ M = B) := by omega
        have hb2 : -1 ≤ b ∧ b ≤ 450 := by
          have h9 := scan_bd (f := f) hz ht9 j (by have h8 := hj.out.1; omega)
          rw [← hj.out.2.1] at h9; omega
        have HS := Lib.hid hSe
        have HMM := Lib.hid hM
        clear hAe hBe hSe hM r9
        have hjb : j ≤ 9 := by have := hj.out.1; omega
        have hcond : (b < 0 ∨ (¬ b < 0 ∧ z + M < b)) ∨ (¬ b < 0 ∧ ¬ z + M < b) := by omega
        rcases hMc with ⟨hab, rfl⟩ | ⟨hab, rfl⟩
        · skip
          go_wp2_with fail
          go_quiet (fail)
          have e2' : (wk.drewN nq).cell? ⟨q, 2, none⟩ = some (.map (some b2)) := e2
          have g0' : (wk.drewN nq).cell? ⟨p, 0, none⟩ = some (.int .i64 f) := g0
          have g1' : (wk.drewN nq).cell? ⟨p, 1, none⟩ = some (.int .i64 t) := g1
          have HP8 := Lib.hid (hP.out.drewN nq)
          have HA8 := Lib.hid (hA.out.keep (w' := wk.drewN nq) rfl)
          have HB8 := Lib.hid (hB.out.keep (w' := wk.drewN nq) rfl)
          have HX8 : Hid ((wk.drewN nq).heap[p]? = some (.cells #[.int .i64 f, .int .i64 t] 43)) := hbx.out
          generalize wk.drewN nq = w8 at *
          clear lA lB e0 e1 e2 g0 g1 x1 hA hB hP hbx
          rcases hcond with hc | hc
          · obtain ⟨w5, hput5, hM5, hg5⟩ := (HB8.out.keep (w' := w8.drew) rfl).put (x := f) (y := t) (z := k) (by omega) (by omega) (by omega) (by omega)
            have HP9 := Lib.hid (HP8.out.drew.grown2 hg5)
            have HX9 := Lib.hid ((hg5.block p (Array.getElem?_eq_some_iff.1 HX8.out).1 (by have := HPB.out; simp; omega)).trans HX8.out)
            have HA9 := Lib.hid ((HA8.out.keep (w' := w8.drew) rfl).keep (hg5.block b1 HA8.out.lt (by have := HP8.out.2.1; simp; omega)))
            have HB9 := Lib.hid hM5
            have HSC := Lib.hid (scan_new hj.out.2.1 hj.out.1 (by rw [HS.out]; omega))
            clear hg5 hM5
            rcases hc with hc | ⟨hc, hc'⟩
            · go_wp2_with fail
              go_region
              go_wp2_with fail
              go_roundw
              case rel => exact ⟨j + 1, k + 1, _, _, ⟨by have := hj.out.1; omega, by rw [HSC.out, HS.out], by rw [HSC.out, updF_same], fun x y hxy => (updF_other hxy).trans (hj.out.2.2.2 x y hxy)⟩, by omega, rfl, by go_num, HP9, HA9, by rw [show m + 1 + (j + 1) = m + 1 + j + 1 by omega]; exact HB9, HX9⟩
              case measure => simp [intOf]; omega
            · go_wp2_with fail
              go_region
              go_wp2_with fail
              go_roundw
              case rel => exact ⟨j + 1, k + 1, _, _, ⟨by have := hj.out.1; omega, by rw [HSC.out, HS.out], by rw [HSC.out, updF_same], fun x y hxy => (updF_other hxy).trans (hj.out.2.2.2 x y hxy)⟩, by omega, rfl, by go_num, HP9, HA9, by rw [show m + 1 + (j + 1) = m + 1 + j + 1 by omega]; exact HB9, HX9⟩
              case measure => simp [intOf]; omega
          · have HSC := Lib.hid (scan_old hj.out.2.1 hj.out.1 (by rw [HS.out]; omega))
            obtain ⟨hc, hc'⟩ := hc
            go_wp2_with fail
            go_roundw
            case rel => exact ⟨j + 1, k + 1, b, F', ⟨by have := hj.out.1; omega, by rw [HSC.out]; exact hj.out.2.1, by rw [HSC.out]; exact hj.out.2.2.1, hj.out.2.2.2⟩, by omega, rfl, by go_num, HP8, HA8, HB8.out.mono (by omega), HX8⟩
            case measure => simp [intOf]; omega
        · skip
          go_wp2_with fail
          go_quiet (fail)
          have e2' : (wk.drewN nq).cell? ⟨q, 2, none⟩ = some (.map (some b2)) := e2
          have g0' : (wk.drewN nq).cell? ⟨p, 0, none⟩ = some (.int .i64 f) := g0
          have g1' : (wk.drewN nq).cell? ⟨p, 1, none⟩ = some (.int .i64 t) := g1
          have HP8 := Lib.hid (hP.out.drewN nq)
          have HA8 := Lib.hid (hA.out.keep (w' := wk.drewN nq) rfl)
          have HB8 := Lib.hid (hB.out.keep (w' := wk.drewN nq) rfl)
          have HX8 : Hid ((wk.drewN nq).heap[p]? = some (.cells #[.int .i64 f, .int .i64 t] 43)) := hbx.out
          generalize wk.drewN nq = w8 at *
          clear lA lB e0 e1 e2 g0 g1 x1 hA hB hP hbx
          rcases hcond with hc | hc
          · obtain ⟨w5, hput5, hM5, hg5⟩ := (HB8.out.keep (w' := w8.drew) rfl).put (x := f) (y := t) (z := k) (by omega) (by omega) (by omega) (by omega)
            have HP9 := Lib.hid (HP8.out.drew.grown2 hg5)
            have HX9 := Lib.hid ((hg5.block p (Array.getElem?_eq_some_iff.1 HX8.out).1 (by have := HPB.out; simp; omega)).trans HX8.out)
            have HA9 := Lib.hid ((HA8.out.keep (w' := w8.drew) rfl).keep (hg5.block b1 HA8.out.lt (by have := HP8.out.2.1; simp; omega)))
            have HB9 := Lib.hid hM5
            have HSC := Lib.hid (scan_new hj.out.2.1 hj.out.1 (by rw [HS.out]; omega))
            clear hg5 hM5
            rcases hc with hc | ⟨hc, hc'⟩
            · go_wp2_with fail
              go_region
              go_wp2_with fail
              go_roundw
              case rel => exact ⟨j + 1, k + 1, _, _, ⟨by have := hj.out.1; omega, by rw [HSC.out, HS.out], by rw [HSC.out, updF_same], fun x y hxy => (updF_other hxy).trans (hj.out.2.2.2 x y hxy)⟩, by omega, rfl, by go_num, HP9, HA9, by rw [show m + 1 + (j + 1) = m + 1 + j + 1 by omega]; exact HB9, HX9⟩
              case measure => simp [intOf]; omega
            · go_wp2_with fail
              go_region
              go_wp2_with fail
              go_roundw
              case rel => exact ⟨j + 1, k + 1, _, _, ⟨by have := hj.out.1; omega, by rw [HSC.out, HS.out], by rw [HSC.out, updF_same], fun x y hxy => (updF_other hxy).trans (hj.out.2.2.2 x y hxy)⟩, by omega, rfl, by go_num, HP9, HA9, by rw [show m + 1 + (j + 1) = m + 1 + j + 1 by omega]; exact HB9, HX9⟩
              case measure => simp [intOf]; omega
          · have HSC := Lib.hid (scan_old hj.out.2.1 hj.out.1 (by rw [HS.out]; omega))
            obtain ⟨hc, hc'⟩ := hc
            go_wp2_with fail
            go_roundw
            case rel => exact ⟨j + 1, k + 1, b, F', ⟨by have := hj.out.1; omega, by rw [HSC.out]; exact hj.out.2.1, by rw [HSC.out]; exact hj.out.2.2.1, hj.out.2.2.2⟩, by omega, rfl, by go_num, HP8, HA8, HB8.out.mono (by omega), HX8⟩
            case measure => simp [intOf]; omega
      · have hkt' : k = t := by omega
        subst hkt'
        have hjt : j = k - f := by have := hj.out.1; omega
        have hone := HONE.out
        have HBE : Hid (b = opt zs f k) := by
          have h5 := hj.out.2.1
          rw [hjt] at h5
          exact h5.trans (opt_eq (by omega)).symm
        have HFE : Hid (F' f k = fstB zs f k) := by
          have h5 := hj.out.2.2.1
          rw [hjt] at h5
          rw [h5]; unfold fstB; rw [if_neg (by omega)]; exact Lib.hid rfl
        have hb2 : -1 ≤ b ∧ b ≤ 450 := by
          have h9 := scan_bd (f := f) hz ht9 j (by have h8 := hj.out.1; omega)
          rw [← hj.out.2.1] at h9; omega
        obtain ⟨w5, hput5, hM5, hg5⟩ := (hA.out.keep (w' := wk.drew) rfl).put (x := f) (y := k) (z := b) (by omega) (by omega) (by omega) (by omega)
        have HP9 := Lib.hid (hP.out.drew.grown1 hg5)
        have HB9 := Lib.hid ((hB.out.keep (w' := wk.drew) rfl).keep (hg5.block b2 hB.out.lt (by have := hP.out.2.1; simp; omega)))
        have HA9 := Lib.hid hM5
        have hj10 : m + 1 + j ≤ m + 10 := by omega
        have HJ := Lib.hid hj10
        clear hg5 hM5 hjt hone hj10
        go_wp2_with fail
        go_region
        go_wp2
        go_end0
        exact ⟨rfl, HP9.out, ⟨_, HA9.out, by rw [updF_same, HBE.out], fun x y hxy => updF_other hxy⟩, ⟨F', HB9.out.mono HJ.out, HFE.out, hj.out.2.2.2⟩⟩
end Go.Proofs.Ytcgpfdknadijlaa
