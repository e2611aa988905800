/- AfterVisit of the program: the copied row, the visit, the room that is told. -/
import Derived.Test.YtnpfjpihcdlmhaaAfter
import Derived.Lib.SliceRun
namespace Go.Proofs.Ytnpfjpihcdlmhaa
open Go.RowKit

set_option maxRecDepth 100000 in
theorem clone_any (v : Value) (zs : List Int) (w : World) (h : Rd w v zs) (h0 : 1 ≤ zs.length) (hl : zs.length ≤ 1048576) :
    Calls Try.prog 63 #[v] w fun e w' => ∃ v', e = .returned v' ∧ Own w' w.heap.size w'.heap.size v' zs ∧ Below w.heap.size w w' := by
  obtain ⟨a1, c1, rfl, l1, m1, r1⟩ := h
  obtain ⟨g, off, rfl, hg, hc⟩ := r1 (by omega)
  obtain ⟨i0, hi, hz0, hz1, hz2⟩ := info_parts infoInt
  have qT : ∀ (w : World) (a : Option Addr) (n c n' c' : Nat), (binOp .eql 22 (.slice a n c) (.slice none n' c')).run Try.prog w = .ok (.bool a.isNone) w := fun w a n c n' c' => Lib.run_eql_slice_nil w _ _ a n c n' c' Try.underlying22
  have hb0 : ∀ o, Below w.heap.size w (w.alloc o) := fun o => (Below.refl _ _).alloc (Nat.le_refl _) o
  have ho0 : (w.alloc (.cells #[] 3)).ownsRow w.heap.size 3 1 (.slice (some ⟨w.heap.size, 0, none⟩) 0 0) 0 [] := World.ownsRow_lit w #[] 0 (Nat.le_refl _) (by simp) (by simp)
  go_enter Try.func63, Try.ntmps63
  go_wp2_with (at_builtin; refine wpList_append_own _ rfl _ _ 22 rfl w.heap.size 3 i0 (.int .i64 0) 1 8 Try.underlying22 hi hz0 hz1 hz2 rfl (by decide) _ 0 [] rfl ho0 ⟨g, off, none⟩ zs.length c1 (zs.map (Value.int .i64)) rfl (by simp) ?n1 ?n2 ?c1 ?c2 ?c3 ?_)
  case n1 =>
    intro j u hu
    have e : (⟨g, off, none⟩ : Addr).add j = ⟨g, off + j, none⟩ := by unfold Addr.add; split <;> simp_all
    rw [List.getElem?_map] at hu
    by_cases hj : j < zs.length
    · rw [List.getElem?_eq_getElem hj] at hu
      injection hu with hu
      rw [e, (hb0 _).cell (p := ⟨g, off + j, none⟩) hg, hc j hj, ← hu]
      simp [List.getD, List.getElem?_eq_getElem hj]
    · rw [List.getElem?_eq_none (by omega)] at hu; cases hu
  case n2 => intro u hu; obtain ⟨_, _, rfl⟩ := List.mem_map.1 hu; rfl
  case c1 => unfold maxLen; omega
  case c2 => omega
  case c3 => simp
  intro v' w1 hown hgr _
  have hB : Below w.heap.size w w1 := by
    refine (hb0 (.cells #[] 3)).grown hgr (by simp) (fun k hk => ?_)
    have : w.heap.size = k := by injection hk
    omega
  have HB := Lib.hid hB; clear hB
  have HO := Lib.hid (Own.new hown (Nat.le_refl _))
  clear hown hgr hz0 hz1 hz2 hi qT hb0 ho0 hc r1
  go_wp2
  go_ret
  exact ⟨_, rfl, HO.out, HB.out⟩

set_option maxHeartbeats 800000 in
set_option maxRecDepth 100000 in
theorem implAfterVisit_any (sw cnt : Int) (v : Value) (zs : List Int) (q : Int) (w : World) (h : Rd w v zs) :
    Calls Try.prog 43 #[.agg #[.int .i64 sw, .int .i64 cnt, v], .int .i64 q] w fun e w' => (∃ A n c, e = .returned (.agg #[.int .i64 (avSw sw cnt zs q), .int .i64 (avCnt sw cnt zs q), .slice A n c]) ∧
      Own w' w.heap.size w'.heap.size (.slice A n c) (avDone sw cnt zs q)) ∧ Below w.heap.size w w' := by
  obtain ⟨A0, c0, e0, hh⟩ := h
  subst e0
  have h : Rd w (.slice A0 zs.length c0) zs := ⟨A0, c0, rfl, hh⟩
  clear hh
  obtain ⟨W, hW⟩ : ∃ W : World, W = (w.alloc (.cells #[.int .i64 sw, .int .i64 cnt, .slice A0 zs.length c0] 30)).alloc (.cells #[.int .i64 0, .int .i64 0, .slice none 0 0] 30) := ⟨_, rfl⟩
  have hbW : Below w.heap.size w W := by rw [hW]; exact ((Below.refl _ _).alloc (Nat.le_refl _) _).alloc (by simp) _
  have hsW : W.heap.size = w.heap.size + 2 := by rw [hW]; simp
  have g1 : W.heap[w.heap.size]? = some (.cells #[.int .i64 sw, .int .i64 cnt, .slice A0 zs.length c0] 30 (0, 0)) := by
    rw [hW, Below.heap_alloc _ _ _ (by simp)]; exact heap_alloc_new _ _
  have g2 : W.heap[w.heap.size + 1]? = some (.cells #[.int .i64 0, .int .i64 0, .slice none 0 0] 30 (0, 0)) := by
    rw [hW]; exact heap_alloc2_new _ _ _
  have H := Lib.hid (implRoomOk_any sw cnt _ zs W (h.below hbW))
  have hRW := h.below hbW
  have HW := Lib.hid hW
  clear hW h
  go_enter Try.func43, Try.ntmps43
  go_wp2_with fail
  rw [← HW.out]
  refine H.out.mono ?_
  rintro e w2 ⟨rfl, b2⟩
  have s2 := b2.size
  have k1 := (b2.block _ (by omega)).trans g1
  have k2 := (b2.block _ (by omega)).trans g2
  obtain ⟨⟨x0, x1, x2⟩, y0, y1, y2, z1⟩ := blk3 k1
  obtain ⟨⟨x3, x4, x5⟩, y3, y4, y5, z2⟩ := blk3 k2
  have hR2 := hRW.below b2
  have hb2 := hbW.trans (b2.mono (by omega))
  have HK1 := Lib.hid k1; have HK2 := Lib.hid k2
  clear g1 g2 k1 k2 b2 hbW hRW HW H
  rcases Bool.eq_false_or_eq_true (roomB sw cnt zs) with hrb | hrb
  · rw [hrb]
    have hL := (roomB_yes hrb).2.1
    have hL1 := (roomB_yes hrb).1
    go_wp2_with fail
    refine (in_any _ _ _ _).mono ?_
    rintro e w' ⟨rfl, rfl⟩
    rcases Bool.eq_false_or_eq_true (inB 0 ((zs.length : Int) - 1) q) with hq | hq
    · rw [hq]
      have HB2 := Lib.hid hb2
      clear hb2
      go_wp2_with fail
      refine (clone_any _ zs _ hR2 hL1 (by omega)).mono ?_
      rintro e w3 ⟨v3, rfl, o3, b3⟩
      obtain ⟨A, c, rfl⟩ := own_slice o3
      have s3 := b3.size
      have k1 := (b3.block _ z1).trans HK1.out
      have k2 := (b3.block _ z2).trans HK2.out
      have bb := HB2.out.trans (b3.mono (by omega))
      clear x0 x1 x2 x3 x4 x5 y0 y1 y2 y3 y4 y5 HK1 HK2 HB2 b3 hR2
      obtain ⟨⟨x0, x1, x2⟩, y0, y1, y2, -⟩ := blk3 k1
      have hq1 := heap_setCell_same w3 w.heap.size 2 _ _ (.slice A zs.length c) k1
      obtain ⟨w4, hw4⟩ : ∃ w4 : World, w4 = w3.setCell ⟨w.heap.size, 2, none⟩ (.slice A zs.length c) := ⟨_, rfl⟩
      have hk4 : ∀ k, k ≠ w.heap.size → w4.heap[k]? = w3.heap[k]? := fun k hk => by rw [hw4]; exact heap_setCell_other w3 ⟨w.heap.size, 2, none⟩ k _ hk
      have s4 : w4.heap.size = w3.heap.size := by rw [hw4]; simp
      rw [← hw4] at hq1
      have hg4 : w4.heap[w.heap.size]? = some (.cells #[.int .i64 sw, .int .i64 cnt, .slice A zs.length c] 30 (0, 0)) := by simpa using hq1
      have hb4 : Below w.heap.size w w4 := by rw [hw4]; exact bb.setCell (p := ⟨w.heap.size, 2, none⟩) (Nat.le_refl _) _
      have o4 : Own w4 (w.heap.size + 2) w3.heap.size (.slice A zs.length c) zs := (o3.keep (fun g hg _ => hk4 g (by omega))).wide (by omega) (Nat.le_refl _)
      have k24 := (hk4 (w.heap.size + 1) (by omega)).trans k2
      have HW4 := Lib.hid hw4
      have HK4 := Lib.hid k24
      have HB4 := Lib.hid hb4
      clear hq1 hk4 hw4 bb o3 k1 k2 k24 hb4
      have hav : avB sw cnt zs q = true := by unfold avB; rw [hrb, hq]; rfl
      have hqq := inB_in hq
      obtain ⟨P, rfl⟩ := Int.eq_ofNat_of_zero_le hqq.1
      have hP : P < zs.length := by omega
      have hsw := (roomB_cnt hrb).1
      have hcn := (roomB_cnt hrb).2
      have HA : Hid (avSw sw cnt zs P = vSw sw zs P ∧ avCnt sw cnt zs P = vCnt sw cnt P ∧ avDone sw cnt zs P = vDone sw zs P) := by
        unfold Hid avSw avCnt avDone
        rw [if_pos hav, if_pos hav, if_pos hav]
        exact ⟨rfl, rfl, rfl⟩
      have HV := Lib.hid (visit_any w.heap.size (w.heap.size + 2) w3.heap.size sw cnt A c zs P w4 hg4 o4 (.inl (by omega)) hP hsw hcn)
      clear hav hqq hq hrb hsw hcn hg4 o4
      go_wp2_with fail
      rw [← HW4.out]
      refine HV.out.mono ?_
      rintro e w5 ⟨rfl, hg5, o5, v5⟩
      have s5 := v5.size
      have k15 := (v5.block _ (by omega) (.inl (by omega))).trans HK4.out
      have hb5 := visited_below HB4.out v5 (Nat.le_refl _) (by omega)
      have HT := Lib.hid (set3 k15 (.int .i64 (vSw sw zs P)) (.int .i64 (vCnt sw cnt P)) (.slice A zs.length c))
      have HB5 := Lib.hid (below_turned hb5 HT.out.2.1 (by omega) hb5.size)
      have HO5 := Lib.hid ((o5.turned HT.out.2.1 (by omega) (.inr (by omega))).wide (lo' := w.heap.size) (hi' := w5.heap.size) (by omega) (by omega))
      clear x0 x1 x2 y0 y1 y2
      obtain ⟨⟨x0, x1, x2⟩, y0, y1, y2, -⟩ := blk3 hg5
      obtain ⟨⟨x3, x4, x5⟩, y3, y4, y5, z5⟩ := blk3 k15
      have S5 := Lib.hid HT.out.2.2
      clear hg5 o5 v5 k15 hb5 HW4 HK4 HB4 HV
      go_wp2
      obtain ⟨⟨j0, j1, j2⟩, -, -, -, -⟩ := blk3 HT.out.1
      refine bodyPost_ret (v := .agg #[.int .i64 (vSw sw zs P), .int .i64 (vCnt sw cnt P), .slice A zs.length c]) (by simp [results, Try.results43, go_sem, j0, j1, j2]) rfl ?_
      rw [HA.out.1, HA.out.2.1, HA.out.2.2]
      exact ⟨⟨_, _, _, rfl, HO5.out.wide (Nat.le_refl _) (by rw [S5.out]; exact Nat.le_refl _)⟩, HB5.out⟩
    · rw [hq]
      have hav : avB sw cnt zs q = false := by unfold avB; rw [hrb, hq]; rfl
      have HA := Lib.hid hav
      have HT := Lib.hid (set3 HK2.out (.int .i64 0) (.int .i64 0) (.slice none 0 0))
      have HB := Lib.hid (below_turned hb2 HT.out.2.1 (by omega) hb2.size)
      clear hav hq hb2 hR2
      go_wp2
      obtain ⟨⟨j0, j1, j2⟩, -, -, -, -⟩ := blk3 HT.out.1
      refine bodyPost_ret (v := .agg #[.int .i64 0, .int .i64 0, .slice none 0 0]) (by simp [results, Try.results43, go_sem, j0, j1, j2]) rfl ?_
      unfold avSw avCnt avDone
      rw [HA.out]
      exact ⟨⟨none, 0, 0, rfl, ⟨rfl, .inl ⟨rfl, rfl⟩⟩, fun k hk => by cases hk⟩, HB.out⟩
  · rw [hrb]
    have hav : avB sw cnt zs q = false := by unfold avB; rw [hrb]; rfl
    have HA := Lib.hid hav
    have HT := Lib.hid (set3 HK2.out (.int .i64 0) (.int .i64 0) (.slice none 0 0))
    have HB := Lib.hid (below_turned hb2 HT.out.2.1 (by omega) hb2.size)
    clear hav hrb hb2 hR2
    go_wp2
    obtain ⟨⟨j0, j1, j2⟩, -, -, -, -⟩ := blk3 HT.out.1
    refine bodyPost_ret (v := .agg #[.int .i64 0, .int .i64 0, .slice none 0 0]) (by simp [results, Try.results43, go_sem, j0, j1, j2]) rfl ?_
    unfold avSw avCnt avDone
    rw [HA.out]
    exact ⟨⟨none, 0, 0, rfl, ⟨rfl, .inl ⟨rfl, rfl⟩⟩, fun k hk => by cases hk⟩, HB.out⟩
end Go.Proofs.Ytnpfjpihcdlmhaa
