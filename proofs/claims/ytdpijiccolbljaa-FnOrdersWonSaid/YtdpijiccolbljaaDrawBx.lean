/- Drawn boxes. -/
import Derived.Test.YtdpijiccolbljaaDrawVis
import Derived.Test.YtdpijiccolbljaaClone
import Derived.Test.YtdpijiccolbljaaOpenP
import Derived.Deep.RegionHeld3
import Derived.Deep.RegionWith
namespace Go.Proofs.Ytdpijiccolbljaa
open Go.RowKit

/-- Behind a step that wrote rows only which came after a. -/
theorem turned_new {lo hi lo' hi' : Nat} {a b c : World} (h : Turned lo hi a b) (k : Turned lo' hi' b c) (hl : a.heap.size ≤ lo') : Turned lo hi a c :=
  ⟨k.os.trans h.os, k.tape.trans h.tape, k.output.trans h.output, Nat.le_trans h.size k.size, fun i hi hne => (k.block i (Nat.lt_of_lt_of_le hi h.size) (.inl (by omega))).trans (h.block i hi hne)⟩

set_option maxHeartbeats 1600000 in
set_option maxRecDepth 100000 in
theorem mixed_any (g B N : Nat) (w : World) (h : Rdr w g B) (hB : B ≤ 1000000) (hN : 1 ≤ N ∧ N ≤ 7) :
    Calls Try.prog 66 #[.pointer (some ⟨g, 0, none⟩), .int .i64 N] w fun e w' => (∃ v zs, e = .returned v ∧ zs.length = N ∧ Own w' w.heap.size w'.heap.size v zs) ∧ Rdr w' g (B + 8) ∧ Turned g (g + 1) w w' := by
  obtain ⟨i0, hi, hz0, hz1, hz2⟩ := info_parts infoInt
  have hg := rdr_lt h
  obtain ⟨W, hW⟩ : ∃ W : World, W = w.alloc (.cells #[] 3) := ⟨_, rfl⟩
  have hbW : Below w.heap.size w W := by rw [hW]; exact (Below.refl _ _).alloc (Nat.le_refl _) _
  have hsW : W.heap.size = w.heap.size + 1 := by rw [hW]; simp
  have hoW : W.ownsRow w.heap.size 3 1 (.slice (some ⟨w.heap.size, 0, none⟩) 0 0) (iz (List.range 0)).length ((iz (List.range 0)).map (Value.int .i64)) := by rw [hW]; exact own_none w
  have HW := Lib.hid hW; have HB := Lib.hid hbW; have HO := Lib.hid hoW
  have hs1 : w.heap.size ≤ W.heap.size := by omega
  have HRD := Lib.hid h
  clear hW hbW hoW h
  go_enter Try.func66, Try.ntmps66
  go_wp2_with fail
  rw [← HW.out]
  go_loopg [5, 6] N (fun gk v i wr => ∃ k : Nat, k ≤ N ∧ gk = N - k ∧ i = .int .i64 k ∧ wr.ownsRow w.heap.size 3 1 v (iz (List.range k)).length ((iz (List.range k)).map (Value.int .i64)) ∧ Below w.heap.size w wr ∧ w.heap.size ≤ wr.heap.size)
  case atStart => exact ⟨0, Nat.zero_le _, rfl, rfl, HO.out, HB.out, hs1⟩
  case round =>
    clear HO HB
    obtain ⟨k, hk, rfl, rfl, ho, hb, hs⟩ := hrel
    by_cases hlt : k < N
    · have hl2 : (iz (List.range k)).length ≤ 7 := by rw [length_iz, List.length_range]; omega
      have HSN := Lib.hid (List.range_succ (n := k))
      go_wp2_with (first | (at_builtin; go_loud (refine wpList_append_own _ rfl _ _ 22 rfl w.heap.size 3 i0 (.int .i64 0) 1 8 Try.underlying22 hi hz0 hz1 hz2 rfl (by decide) _ _ _ rfl (ho.alloc _) ⟨_, 0, none⟩ 1 1 [.int .i64 (k : Int)] rfl rfl (one_new _ _ _) ?c2 ?c3 ?c4 ?c5 ?_)) | go_in)
      case c2 => first | exact one_cell _ _ | rfl
      case c3 => unfold maxLen; omega
      case c4 => omega
      case c5 => first | omega | (simp; omega)
      intro v' w5 hown' hgr _
      have hrel := app_rel ho hb (Nat.le_refl _) hs hown' hgr
      have HR5 := Lib.hid hrel
      clear hrel hown' hgr ho hb hz0 hz1 hz2 hi
      go_wp2
      go_roundg (N - (k + 1))
      case measure => omega
      case rel => exact ⟨k + 1, by omega, rfl, by go_num, by rw [HSN.out]; exact snoc_iz HR5.out.1, HR5.out.2.1, HR5.out.2.2⟩
    · have hk' : k = N := by omega
      subst hk'
      have ho2 : Own wr w.heap.size wr.heap.size _ (iz (List.range k)) := Own.new ho (Nat.le_refl _)
      have hll : (iz (List.range k)).length = k := by rw [length_iz, List.length_range]
      obtain ⟨A, c, hv⟩ := own_form ho2
      rw [hv] at ho2
      obtain ⟨g1, rfl⟩ := own_block ho2 (by omega)
      rw [hll] at hv ho2
      rw [hv]
      have hrd2 : Rdr wr g B := rdr_keep HRD.out fun q hq => hb.block q (by omega)
      have ht2 : Turned g (g + 1) w wr := turned_below (turned_refl _ _ _) hb
      have HS : Hid (∃ zs : List Int, zs.length = k ∧ Own wr w.heap.size wr.heap.size (.slice (some ⟨g1, 0, none⟩) k c) zs ∧ Rdr wr g B ∧ Turned g (g + 1) w wr) := ⟨_, hll, ho2, hrd2, ht2⟩
      obtain ⟨wo, hwo⟩ : ∃ wo : World, wo = wr := ⟨_, rfl⟩
      subst hwo
      clear hv ho ho2 hrd2 ht2 hb
      go_wp2_with fail
      go_loopg [7] (k - 1) (fun gj s7 wr => ∃ (j : Nat) (zs : List Int), gj = j ∧ j + 1 ≤ k ∧ s7 = .int .i64 j ∧ zs.length = k ∧ Own wr w.heap.size wo.heap.size (.slice (some ⟨g1, 0, none⟩) k c) zs ∧ Rdr wr g (B + 8 - j) ∧ Turned g (g + 1) w wr ∧ wo.heap.size ≤ wr.heap.size)
      case atStart =>
        obtain ⟨zs, h1, h2, h3, h4⟩ := HS.out
        exact ⟨k - 1, zs, rfl, by omega, by congr 1; omega, h1, h2, rdr_more h3 (by omega), h4, Nat.le_refl _⟩
      case round =>
        clear HS
        obtain ⟨j, zs, hg2, hj, rfl, hzl, ho, hrd, ht, hsz⟩ := hrel
        have HG := Lib.hid hg2
        have HZ := Lib.hid hzl
        clear hg2 hzl
        rcases j with _ | j
        · have HF := Lib.hid (And.intro ho (And.intro hrd ht))
          clear ho hrd ht
          go_wp2
          go_ret
          exact ⟨⟨_, zs, rfl, HZ.out, HF.out.1.wide (Nat.le_refl _) hsz⟩, HF.out.2.1, HF.out.2.2⟩
        · have HO := Lib.hid ho
          have HT := Lib.hid ht
          clear ho ht
          go_wp2_with fail
          with_reducible refine (pick_any g (B + 8 - (j + 1)) _ _ hrd (by omega)).mono ?_
          rintro e w7 ⟨x, rfl, ⟨hx0, hx1, -⟩, r7, t7, s7⟩
          have hx2 := hx1 (by omega)
          obtain ⟨X, rfl⟩ := Int.eq_ofNat_of_zero_le hx0
          have ho7 := HO.out.turned t7 hsz (.inr (by omega))
          have ht7 := turned_trans HT.out t7
          have hs7 : wo.heap.size ≤ w7.heap.size := by omega
          have x1 := ho7.cellAt (j + 1) (by rw [HZ.out]; omega)
          have x2 := ho7.cellAt X (by rw [HZ.out]; omega)
          have f1 := ho7.frozenAt (j + 1) HZ.out.symm
          have f2 := ho7.frozenAt X HZ.out.symm
          obtain ⟨a, ha⟩ : ∃ a, a = zs.getD (j + 1) 0 := ⟨_, rfl⟩
          obtain ⟨b, hb⟩ : ∃ b, b = zs.getD X 0 := ⟨_, rfl⟩
          rw [← ha] at x1
          rw [← hb] at x2
          have s1 := ho7.set (j + 1) b HZ.out.symm
          have hl1 : (zs.set (j + 1) b).length = k := by rw [List.length_set, HZ.out]
          have y2 := s1.1.cellAt X (by rw [hl1]; omega)
          have y3 := s1.1.frozenAt X hl1.symm
          have s2 := s1.1.set X a hl1.symm
          have hlo := (ho7.1.lt g1 rfl).1
          have HS2 : Hid (∃ zs' : List Int, zs'.length = k ∧ Own ((w7.setCell ⟨g1, j + 1, none⟩ (.int .i64 b)).setCell ⟨g1, X, none⟩ (.int .i64 a)) w.heap.size wo.heap.size (.slice (some ⟨g1, 0, none⟩) k c) zs' ∧ Rdr ((w7.setCell ⟨g1, j + 1, none⟩ (.int .i64 b)).setCell ⟨g1, X, none⟩ (.int .i64 a)) g (B + 8 - j) ∧ Turned g (g + 1) w ((w7.setCell ⟨g1, j + 1, none⟩ (.int .i64 b)).setCell ⟨g1, X, none⟩ (.int .i64 a))) :=
            ⟨_, by rw [List.length_set, hl1], s2.1, rdr_more (rdr_keep r7 fun q hq => ((s2.2.block q (by simp; omega) (.inl (by omega))).trans (s1.2.block q (by omega) (.inl (by omega))))) (by omega), turned_new (turned_new ht7 s1.2 (Nat.le_refl _)) s2.2 (Nat.le_refl _)⟩
          generalize (zs.set (j + 1) b).getD X 0 = q2 at y2
          have hj2 : (j : Int) + 1 < k := by omega
          have hX2 : (X : Int) < k := by omega
          clear s1 s2 ho7 ht7 r7 t7 hx1 ha hb HO HT hrd
          go_wp2
          go_roundg j
          case measure => have := HG.out; omega
          case rel =>
            obtain ⟨zs', q1, q2, q3, q4⟩ := HS2.out
            exact ⟨j, zs', rfl, by omega, by go_num, q1, q2, q3, q4, by simpa using hs7⟩
set_option maxHeartbeats 1600000 in
set_option maxRecDepth 100000 in
theorem boxes_any (g B : Nat) (n : Int) (w : World) (h : Rdr w g B) (hB : B ≤ 900000) :
    Calls Try.prog 57 #[.pointer (some ⟨g, 0, none⟩), .int .i64 n] w fun e w' => (∃ v zs, e = .returned v ∧ zs.length ≤ 8 ∧ Own w' w.heap.size w'.heap.size v zs) ∧ Rdr w' g (B + 11) ∧ Turned g (g + 1) w w' := by
  obtain ⟨i0, hi, hz0, hz1, hz2⟩ := info_parts infoInt
  have hg := rdr_lt h
  go_enter Try.func57, Try.ntmps57
  go_wp2_with fail
  with_reducible refine (pick_any g B _ w h (by omega)).mono ?_
  rintro e w1 ⟨x, rfl, ⟨hx0, hx1, -⟩, r1, t1, s1⟩
  have hx2 := hx1 (by omega)
  obtain ⟨X, rfl⟩ := Int.eq_ofNat_of_zero_le hx0
  have e1 : 1 + (X : Int) = ((X + 1 : Nat) : Int) := by omega
  have E1 := Lib.hid e1
  have S1 := Nat.le_of_eq s1.symm
  have S1b := Nat.le_of_eq s1
  clear e1 s1 hx1
  go_wp2_with fail
  rw [E1.out]
  with_reducible refine (mixed_any g (B + 1) (X + 1) _ r1 (by omega) ⟨by omega, by omega⟩).mono ?_
  rintro e w2 ⟨⟨v2, zs, rfl, hzl, o2⟩, r2, t2⟩
  have ht2 := turned_trans t1 t2
  have hs2 := t2.size
  clear r1 t1 t2
  go_wp2_with fail
  with_reducible refine (odd_any g (B + 1 + 8) n _ r2 (by omega)).mono ?_
  rintro e w3 ⟨b, rfl, -, r3, t3, s3⟩
  have o3 := o2.turned t3 (Nat.le_refl _) (.inr (by omega))
  have ht3 := turned_trans ht2 t3
  have S3 := Nat.le_of_eq s3.symm
  have S3b := Nat.le_of_eq s3
  obtain ⟨A, c, rfl⟩ := own_form o3
  obtain ⟨g1, rfl⟩ := own_block o3 (by omega)
  have hzl8 : zs.length ≤ 7 := by omega
  have hzl1 : 1 ≤ zs.length := by omega
  clear r2 t3 ht2 s3 o2 hzl
  rcases b with _ | _
  · have HF := Lib.hid (And.intro o3 (And.intro r3 ht3))
    clear o3 r3 ht3
    go_wp2
    go_ret
    exact ⟨⟨_, zs, rfl, by omega, HF.out.1.wide (by omega) (by omega)⟩, rdr_more HF.out.2.1 (by omega), HF.out.2.2⟩
  · go_wp2_with fail
    with_reducible refine (pick_any g (B + 1 + 8 + 1) _ _ r3 (by omega)).mono ?_
    rintro e w5 ⟨q, rfl, ⟨hq0, hq1, -⟩, r5, t5, s5⟩
    have hq2 := hq1 (by omega)
    have S5 := Nat.le_of_eq s5.symm
    have S5b := Nat.le_of_eq s5
    have o5 := o3.turned t5 (by omega) (.inr (by omega))
    have ht5 := turned_trans ht3 t5
    clear o3 r3 ht3 t5 s5 hq1
    have hcase : q = 0 ∨ q = 1 ∨ q = 2 := by omega
    rcases hcase with rfl | rfl | rfl
    · have HF : Hid (Own (w5.alloc (.cells #[] 3)) w.heap.size (w5.alloc (.cells #[] 3)).heap.size (.slice (some ⟨w5.heap.size, 0, none⟩) 0 0) [] ∧ Rdr (w5.alloc (.cells #[] 3)) g (B + 11) ∧ Turned g (g + 1) w (w5.alloc (.cells #[] 3))) :=
        ⟨(Own.new (own_none w5) (Nat.le_refl _)).wide (by omega) (Nat.le_refl _), rdr_keep r5 (fun k hk => Below.heap_alloc _ _ _ (by omega)), turned_alloc ht5 _⟩
      clear o5 r5 ht5
      go_wp2
      go_ret
      exact ⟨⟨_, [], rfl, by simp, HF.out.1⟩, HF.out.2.1, HF.out.2.2⟩
    · have s1 := o5.set 0 (zs.length : Int) rfl
      have x0 := o5.cellAt 0 (by omega)
      have f0 := o5.frozenAt 0 rfl
      have hlo := (o5.1.lt g1 rfl).1
      have HF : Hid (Own (w5.setCell ⟨g1, 0, none⟩ (.int .i64 (zs.length : Int))) w1.heap.size w2.heap.size (.slice (some ⟨g1, 0, none⟩) zs.length c) (zs.set 0 (zs.length : Int)) ∧ Rdr (w5.setCell ⟨g1, 0, none⟩ (.int .i64 (zs.length : Int))) g (B + 11) ∧ Turned g (g + 1) w (w5.setCell ⟨g1, 0, none⟩ (.int .i64 (zs.length : Int)))) :=
        ⟨s1.1, rdr_keep r5 (fun k hk => s1.2.block k (by omega) (.inl (by omega))), turned_new ht5 s1.2 (by omega)⟩
      generalize zs.getD 0 0 = z0 at x0
      clear s1 o5 r5 ht5
      go_wp2
      go_ret
      exact ⟨⟨_, zs.set 0 (zs.length : Int), rfl, by rw [List.length_set]; omega, HF.out.1.wide (by omega) (by simp; omega)⟩, HF.out.2.1, HF.out.2.2⟩
    · have x0 := o5.cellAt 0 (by omega)
      have o6 : w5.ownsRow w1.heap.size 3 1 (.slice (some ⟨g1, 0, none⟩) zs.length c) zs.length (zs.map (Value.int .i64)) := o5.1
      generalize zs.getD 0 0 = z0 at x0
      have hsz : w1.heap.size ≤ w5.heap.size := by omega
      clear o5
      go_wp2_with (first | (at_builtin; go_loud (refine wpList_append_own _ rfl _ _ 22 rfl w1.heap.size 3 i0 (.int .i64 0) 1 8 Try.underlying22 hi hz0 hz1 hz2 rfl (by decide) _ _ _ rfl (o6.alloc _) ⟨_, 0, none⟩ 1 1 [.int .i64 z0] rfl rfl (one_new _ _ _) ?c2 ?c3 ?c4 ?c5 ?_)) | go_in)
      case c2 => first | exact one_cell _ _ | rfl
      case c3 => unfold maxLen; omega
      case c4 => omega
      case c5 => first | omega | (simp; omega)
      intro v' w6 hown' hgr _
      have ha := turned_app (z := z0) o6 ht5 (by omega) hsz hown' hgr
      have hr6 : Rdr w6 g (B + 11) := rdr_keep r5 (fun k hk => (hgr.block k (by simp <;> omega) (fun e => by have := (o6.lt k e.symm).1; omega)).trans (Below.heap_alloc _ _ _ (by omega)))
      have HA := Lib.hid (And.intro ha hr6)
      clear ha hown' hgr o6 r5 ht5 hz0 hz1 hz2 hi hr6
      go_wp2
      go_ret
      exact ⟨⟨_, zs ++ [z0], rfl, by simp; omega, (Own.new HA.out.1.1 (Nat.le_refl _)).wide (by omega) (Nat.le_refl _)⟩, HA.out.2, HA.out.1.2.1⟩
end Go.Proofs.Ytdpijiccolbljaa
