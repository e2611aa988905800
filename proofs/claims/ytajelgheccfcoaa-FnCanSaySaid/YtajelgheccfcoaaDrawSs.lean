/- Drawn sayings. -/
import Derived.Test.YtajelgheccfcoaaDrawSz
namespace Go.Proofs.Ytajelgheccfcoaa
open Go.RowKit

/-- What is drawn. -/
def SyR (p : Int) (ps : List Sy) : Prop := 0 ≤ p ∧ p ≤ 5 ∧ ps.length ≤ 4 ∧ ∀ q ∈ ps, q.2.length ≤ 40 ∧ 0 ≤ q.1 ∧ q.1 ≤ 5

theorem turned_say {lo g : Nat} {w wr w' : World} {v v' : Value} {ps : List Sy} {p : Sy} {o : Obj} (hown : OwnS wr lo wr.heap.size v ps) (ht : Turned g (g + 1) w wr) (hB : w.heap.size ≤ lo) (hlo : lo ≤ wr.heap.size)
    (hown' : w'.ownsRow lo 45 2 v' (ps.length + 1) (cellsS ps ++ [.int .i64 p.1, .string (tx p.2)])) (hg : (wr.alloc o).grownBy w' v.ownBlock) :
    OwnS w' lo w'.heap.size v' (ps ++ [p]) ∧ Turned g (g + 1) w w' ∧ lo ≤ w'.heap.size := by
  refine ⟨OwnS.new (by rw [cellsS_append, List.length_append]; exact hown') (Nat.le_refl _), turned_grown (turned_alloc ht o) hg (fun k hk => by have := (hown.1.lt k hk).1; omega), ?_⟩
  have := hg.size
  rw [World.size_alloc] at this
  omega
theorem rdr_app {lo g B : Nat} {wr w' : World} {v : Value} {ps : List Sy} {o : Obj} (h : Rdr wr g B) (hown : OwnS wr lo wr.heap.size v ps) (hgl : g < lo) (hg : (wr.alloc o).grownBy w' v.ownBlock) : Rdr w' g B :=
  rdr_keep h fun k hk => (hg.block k (by have := rdr_lt h; simp; omega) (fun e => by have := (hown.1.lt k e.symm).1; omega)).trans (Below.heap_alloc _ _ _ (by have := rdr_lt h; omega))

set_option maxHeartbeats 12800000 in
set_option maxRecDepth 100000 in
theorem sayings_any (g B : Nat) (n : Int) (w : World) (h : Rdr w g B) (hB : B ≤ 1000) :
    Calls Try.prog 45 #[.pointer (some ⟨g, 0, none⟩), .int .i64 n] w fun e w' => (∃ p v ps, e = .returned (.tuple #[.int .i64 p, v]) ∧ SyR p ps ∧ OwnS w' w.heap.size w'.heap.size v ps) ∧ Rdr w' g (B + 200) ∧ Turned g (g + 1) w w' := by
  obtain ⟨i0, hi, hz0, hz1, hz2⟩ := info_parts infoSay
  have hg := rdr_lt h
  go_enter Try.func45, Try.ntmps45
  go_wp2_with fail
  with_reducible refine (pick_any g B 5 w h (by omega)).mono ?_
  rintro e w1 ⟨x, rfl, ⟨p0, p1, -⟩, r1, t1, -⟩
  obtain ⟨X, rfl⟩ := Int.eq_ofNat_of_zero_le p0
  have hX : X < 5 := by have := p1 (by omega); omega
  have ho1 := ownS_lit w1
  have r1b := rdr_alloc r1 (.cells #[] 45)
  have t1b := turned_alloc t1 (.cells #[] 45)
  have HO1 := Lib.hid ho1
  have HT1 := Lib.hid t1b
  have HR1 := Lib.hid r1b
  have hs1 : w.heap.size ≤ w1.heap.size := t1.size
  have hg1 : g < w1.heap.size := rdr_lt r1
  clear r1 t1 r1b t1b p1 ho1
  have HSY : Hid (∀ (B : Nat) (w : World), Rdr w g B → B ≤ 5000 → Calls Try.prog 56 #[.pointer (some ⟨g, 0, none⟩), .int .i64 (1 + (X : Int)), .int .i64 2] w (SayPost g B 2 w)) := fun B w hr hB => by
    have := saying2_any g (X + 1) (by omega) B w hr hB
    rwa [show ((X + 1 : Nat) : Int) = 1 + (X : Int) by omega] at this
  go_wp2_with fail
  with_reducible refine (pick_any g (B + 1) 4 _ HR1.out (by omega)).mono ?_
  rintro e w2 ⟨y, rfl, ⟨y0, y1, -⟩, r2, t2, s2⟩
  obtain ⟨Y, rfl⟩ := Int.eq_ofNat_of_zero_le y0
  have hY : Y < 4 := by have := y1 (by omega); omega
  rw [World.size_alloc] at s2
  have HT2 := Lib.hid (turned_trans HT1.out t2)
  have HO2 : Hid (OwnS w2 w1.heap.size w2.heap.size (.slice (some ⟨w1.heap.size, 0, none⟩) 0 0) []) := (HO1.out.turned t2 (by simp) (.inr (by omega))).wide (Nat.le_refl _) (by omega)
  have HR2 := Lib.hid r2
  have hs2 : w1.heap.size ≤ w2.heap.size := by omega
  clear r2 t2 y1 s2
  go_wp2_with fail
  go_loopw [7, 8] (fun v k wr => ∃ (j : Nat) (ps : List Sy) (C : Nat), k = .int .i64 j ∧ ps.length + j ≤ 3 ∧ Hid (∀ q ∈ ps, q.2.length ≤ 40 ∧ 0 ≤ q.1 ∧ q.1 ≤ 5) ∧ Hid (OwnS wr w1.heap.size wr.heap.size v ps) ∧ Hid (Rdr wr g C) ∧ C + 40 * j ≤ B + 150 ∧ Hid (Turned g (g + 1) w wr) ∧ w1.heap.size ≤ wr.heap.size)
    (fun _ k _ => (intOf k).toNat)
  case atStart => exact ⟨Y, [], B + 2, rfl, by simp; omega, (fun q hq => by cases hq), HO2, HR2, by omega, HT2, hs2⟩
  case round =>
    clear HO2 HR2 HT2 hs2 HO1 HR1 HT1 hz0 hz1 hz2 hi
    obtain ⟨j, ps, C, rfl, hlen, hps, hO, hR, hC, hT, hsz⟩ := hrel
    rcases j with _ | j
    · go_wp2_with fail
      with_reducible refine (odd_any g C n _ hR.out (by omega)).mono ?_
      rintro e w3 ⟨b, rfl, -, r3, t3, -⟩
      have HT3 := Lib.hid (turned_trans hT.out t3)
      have HR3 := Lib.hid r3
      have HO3 := Lib.hid ((hO.out.turned t3 (Nat.le_refl _) (.inr (by omega))).wide (Nat.le_refl _) t3.size)
      have hs3 : w1.heap.size ≤ w3.heap.size := Nat.le_trans hsz t3.size
      clear r3 t3 hO hR hT
      cases b with
      | false =>
        go_wp2
        refine bodyPost_ret (v := .tuple #[.int .i64 (1 + (X : Int)), _]) (by simp [results, Try.results45, go_sem]; rfl) rfl ?_
        exact ⟨⟨_, _, ps, rfl, ⟨by omega, by omega, by omega, hps.out⟩, HO3.out.wide hs1 (Nat.le_refl _)⟩, rdr_more HR3.out (by omega), HT3.out⟩
      | true =>
        go_wp2_with fail
        with_reducible refine (pick_any g (C + 1) 3 _ HR3.out (by omega)).mono ?_
        rintro e w4 ⟨z, rfl, ⟨z0, z1, -⟩, r4, t4, -⟩
        have hz3 := z1 (by omega)
        have HT4 := Lib.hid (turned_trans HT3.out t4)
        have HR4 := Lib.hid r4
        have ho4 := (HO3.out.turned t4 (Nat.le_refl _) (.inr (by omega))).wide (Nat.le_refl _) t4.size
        have hs4 : w1.heap.size ≤ w4.heap.size := Nat.le_trans hs3 t4.size
        have hoo := ho4.1
        clear r4 t4 HO3 HT3 HR3 z1
        obtain ⟨i0, hi, hz0, hz1, hz2⟩ := info_parts infoSay
        have hcase : z = 0 ∨ z = 1 ∨ z = 2 := by omega
        rcases hcase with rfl | rfl | rfl
        · clear hoo hi hz0 hz1 hz2
          have HO4 := Lib.hid ho4
          clear ho4
          go_wp2
          refine bodyPost_ret (v := .tuple #[.int .i64 0, _]) (by simp [results, Try.results45, go_sem]; rfl) rfl ?_
          exact ⟨⟨_, _, ps, rfl, ⟨by omega, by omega, by omega, hps.out⟩, HO4.out.wide hs1 (Nat.le_refl _)⟩, rdr_more HR4.out (by omega), HT4.out⟩
        · go_wp2_with (first | (at_builtin; go_loud (refine wpList_append_own _ rfl _ _ 26 rfl w1.heap.size 45 i0 (.agg #[.int .i64 0, .string ⟨#[]⟩]) 2 24 Try.underlying26 hi hz0 hz1 hz2 rfl (by decide) _ _ _ rfl (hoo.alloc _) ⟨w4.heap.size, 0, none⟩ 1 1 [.int .i64 (1 + (X : Int)), .string ⟨#[48]⟩] rfl rfl (two_new _ _ _ _) (two_cell _ _) ?c2 ?c3 ?c4 ?_)) | fail)
          case c2 => unfold maxLen; omega
          case c3 => omega
          case c4 => first | (simp; omega) | omega
          intro v' w5 hown' hgr _
          have HA := Lib.hid (turned_say (p := ((1 + (X : Int)), [48])) ho4 HT4.out hs1 hs4 hown' hgr)
          have HR5 := Lib.hid (rdr_app HR4.out ho4 hg1 hgr)
          have HPS : Hid (∀ q ∈ ps ++ [((1 + (X : Int)), [48])], q.2.length ≤ 40 ∧ 0 ≤ q.1 ∧ q.1 ≤ 5) := fun q hq => by
            rcases List.mem_append.1 hq with hq | hq
            · exact hps.out q hq
            · rw [List.mem_singleton.1 hq]; exact ⟨by show (1 : Nat) ≤ 40; omega, by show (0 : Int) ≤ 1 + (X : Int); omega, by show 1 + (X : Int) ≤ 5; omega⟩
          clear hown' hgr hoo ho4 hi hz0 hz1 hz2 HR4
          go_wp2
          refine bodyPost_ret (v := .tuple #[.int .i64 (1 + (X : Int)), _]) (by simp [results, Try.results45, go_sem]; rfl) rfl ?_
          exact ⟨⟨_, _, _, rfl, ⟨by omega, by omega, by simp; omega, HPS.out⟩, HA.out.1.wide hs1 (Nat.le_refl _)⟩, rdr_more HR5.out (by omega), HA.out.2.1⟩
        · go_wp2_with (first | (at_builtin; go_loud (refine wpList_append_own _ rfl _ _ 26 rfl w1.heap.size 45 i0 (.agg #[.int .i64 0, .string ⟨#[]⟩]) 2 24 Try.underlying26 hi hz0 hz1 hz2 rfl (by decide) _ _ _ rfl (hoo.alloc _) ⟨w4.heap.size, 0, none⟩ 1 1 [.int .i64 0, .string ⟨#[40, 48]⟩] rfl rfl (two_new _ _ _ _) (two_cell _ _) ?c2 ?c3 ?c4 ?_)) | fail)
          case c2 => unfold maxLen; omega
          case c3 => omega
          case c4 => first | (simp; omega) | omega
          intro v' w5 hown' hgr _
          have HA := Lib.hid (turned_say (p := ((0 : Int), [40, 48])) ho4 HT4.out hs1 hs4 hown' hgr)
          have HR5 := Lib.hid (rdr_app HR4.out ho4 hg1 hgr)
          have HPS : Hid (∀ q ∈ ps ++ [((0 : Int), [40, 48])], q.2.length ≤ 40 ∧ 0 ≤ q.1 ∧ q.1 ≤ 5) := fun q hq => by
            rcases List.mem_append.1 hq with hq | hq
            · exact hps.out q hq
            · rw [List.mem_singleton.1 hq]; exact ⟨by decide, by decide, by decide⟩
          clear hown' hgr hoo ho4 hi hz0 hz1 hz2 HR4
          go_wp2
          refine bodyPost_ret (v := .tuple #[.int .i64 (1 + (X : Int)), _]) (by simp [results, Try.results45, go_sem]; rfl) rfl ?_
          exact ⟨⟨_, _, _, rfl, ⟨by omega, by omega, by simp; omega, HPS.out⟩, HA.out.1.wide hs1 (Nat.le_refl _)⟩, rdr_more HR5.out (by omega), HA.out.2.1⟩
    · have hjp : (0 : Int) < ((j + 1 : Nat) : Int) := by omega
      go_wp2_with fail
      with_reducible refine (pick_any g C (1 + (X : Int)) _ hR.out (by omega)).mono ?_
      rintro e w3 ⟨z, rfl, ⟨z0, z1, -⟩, r3, t3, -⟩
      have hz5 := z1 (by omega)
      have HT3 := Lib.hid (turned_trans hT.out t3)
      have HR3 := Lib.hid r3
      have HO3 := Lib.hid ((hO.out.turned t3 (Nat.le_refl _) (.inr (by omega))).wide (Nat.le_refl _) t3.size)
      have hs3 : w1.heap.size ≤ w3.heap.size := Nat.le_trans hsz t3.size
      clear r3 t3 hO hR hT z1
      go_wp2_with fail
      with_reducible refine (HSY.out (C + 1) _ HR3.out (by omega)).mono ?_
      rintro e w4 ⟨S, rfl, hS, r4, t4⟩
      obtain ⟨l, hl, hll⟩ := tx_all S
      have hl17 : lenD 2 = 17 := rfl
      have HT4 := Lib.hid (turned_trans HT3.out t4)
      have HR4 := Lib.hid r4
      have ho4 := (HO3.out.turned t4 (Nat.le_refl _) (.inr (by omega))).wide (Nat.le_refl _) t4.size
      have hs4 : w1.heap.size ≤ w4.heap.size := Nat.le_trans hs3 t4.size
      have hoo := ho4.1
      have HL := Lib.hid hl
      have hl40 : l.length ≤ 40 := by omega
      clear r4 t4 HO3 HT3 HR3 hl hS hll
      obtain ⟨i0, hi, hz0, hz1, hz2⟩ := info_parts infoSay
      go_wp2_with (first | (at_builtin; go_loud (refine wpList_append_own _ rfl _ _ 26 rfl w1.heap.size 45 i0 (.agg #[.int .i64 0, .string ⟨#[]⟩]) 2 24 Try.underlying26 hi hz0 hz1 hz2 rfl (by decide) _ _ _ rfl (hoo.alloc _) ⟨w4.heap.size, 0, none⟩ 1 1 [.int .i64 z, .string S] rfl rfl (two_new _ _ _ _) (two_cell _ _) ?c2 ?c3 ?c4 ?_)) | fail)
      case c2 => unfold maxLen; omega
      case c3 => omega
      case c4 => first | (simp; omega) | omega
      intro v' w5 hown' hgr _
      have HA := Lib.hid (turned_say (p := (z, l)) ho4 HT4.out hs1 hs4 (by show World.ownsRow _ _ _ _ _ _ (_ ++ [_, .string (tx l)]); rw [← HL.out]; exact hown') hgr)
      have HR5 := Lib.hid (rdr_app HR4.out ho4 hg1 hgr)
      have HPS : Hid (∀ q ∈ ps ++ [(z, l)], q.2.length ≤ 40 ∧ 0 ≤ q.1 ∧ q.1 ≤ 5) := fun q hq => by
        rcases List.mem_append.1 hq with hq | hq
        · exact hps.out q hq
        · rw [List.mem_singleton.1 hq]; exact ⟨hl40, z0, by show z ≤ 5; omega⟩
      clear hown' hgr hoo ho4 hi hz0 hz1 hz2 HR4
      go_wp2
      go_roundw
      case rel => exact ⟨j, ps ++ [(z, l)], C + 18, by go_num, by simp; omega, HPS, HA.out.1, HR5, by omega, HA.out.2.1, HA.out.2.2⟩
      case measure => simp [intOf]
end Go.Proofs.Ytajelgheccfcoaa
