/- Drawn prices and ways. -/
import Derived.Test.YtcgpfdknadijlaaCoD
namespace Go.Proofs.Ytcgpfdknadijlaa
open Go.RowKit

theorem turned_num {lo g : Nat} {w wr w' : World} {v v' : Value} {zs : List Int} {z : Int} {o : Obj} (hown : Own wr lo wr.heap.size v zs) (ht : Turned g (g + 1) w wr) (hB : w.heap.size ≤ lo) (hlo : lo ≤ wr.heap.size)
    (hown' : w'.ownsRow lo 3 1 v' (zs.length + 1) (zs.map (Value.int .i64) ++ [.int .i64 z])) (hg : (wr.alloc o).grownBy w' v.ownBlock) :
    Own w' lo w'.heap.size v' (zs ++ [z]) ∧ Turned g (g + 1) w w' ∧ lo ≤ w'.heap.size := by
  refine ⟨Own.new (by simpa using hown') (Nat.le_refl _), turned_grown (turned_alloc ht o) hg (fun k hk => by have := (hown.1.lt k hk).1; omega), ?_⟩
  have := hg.size
  rw [World.size_alloc] at this
  omega
theorem rdr_app {lo g B : Nat} {wr w' : World} {v : Value} {zs : List Int} {o : Obj} (h : Rdr wr g B) (hown : Own wr lo wr.heap.size v zs) (hgl : g < lo) (hg : (wr.alloc o).grownBy w' v.ownBlock) : Rdr w' g B :=
  rdr_keep h fun k hk => (hg.block k (by have := rdr_lt h; simp; omega) (fun e => by have := (hown.1.lt k e.symm).1; omega)).trans (Below.heap_alloc _ _ _ (by have := rdr_lt h; omega))

theorem one_new2 (w : World) (o : Obj) (x : Value) (t : TypeId) : ∀ j u, [x][j]? = some u → ((w.alloc o).alloc (.cells #[x] t)).cell? ((⟨w.heap.size + 1, 0, none⟩ : Addr).add j) = some u := by
  have h := one_new (w.alloc o) x t
  rwa [World.size_alloc] at h

set_option maxHeartbeats 12800000 in
set_option maxRecDepth 100000 in
theorem prices_any (g B : Nat) (n : Int) (w : World) (h : Rdr w g B) (hB : B ≤ 1000) :
    Calls Try.prog 18 #[.pointer (some ⟨g, 0, none⟩), .int .i64 n] w fun e w' => (∃ v zs, e = .returned v ∧ zs.length ≤ 10 ∧ Own w' w.heap.size w'.heap.size v zs) ∧ Rdr w' g (B + 40) ∧ Turned g (g + 1) w w' := by
  have hg := rdr_lt h
  have ho0 : (w.alloc (.cells #[] 3)).ownsRow w.heap.size 3 1 (.slice (some ⟨w.heap.size, 0, none⟩) 0 0) 0 [] := World.ownsRow_lit w #[] 0 (Nat.le_refl _) (by simp) (by simp)
  have HO0 : Hid (Own (w.alloc (.cells #[] 3)) w.heap.size (w.alloc (.cells #[] 3)).heap.size (.slice (some ⟨w.heap.size, 0, none⟩) 0 0) []) := Own.new ho0 (Nat.le_refl _)
  have HR0 := Lib.hid (rdr_alloc h (.cells #[] 3))
  have HT0 : Hid (Turned g (g + 1) w (w.alloc (.cells #[] 3))) := turned_alloc (turned_refl _ _ _) _
  obtain ⟨W0, hW0⟩ : ∃ W0, W0 = w.alloc (.cells #[] 3) := ⟨_, rfl⟩
  rw [← hW0] at HO0 HR0 HT0
  have HW0 := Lib.hid hW0
  have hs0 : w.heap.size ≤ W0.heap.size := by rw [hW0]; simp
  clear ho0 hW0 h
  go_enter Try.func18, Try.ntmps18
  go_wp2_with fail
  rw [← HW0.out]
  with_reducible refine (pick_any g B 3 W0 HR0.out (by omega)).mono ?_
  rintro e w1 ⟨x, rfl, ⟨x0, x1, -⟩, r1, t1, -⟩
  have hx3 := x1 (by omega)
  have HT1 := Lib.hid (turned_trans HT0.out t1)
  have HR1 := Lib.hid r1
  have HO1 := Lib.hid ((HO0.out.turned t1 (Nat.le_refl _) (.inr (by omega))).wide (Nat.le_refl _) t1.size)
  have hs1 : w.heap.size ≤ w1.heap.size := Nat.le_trans hs0 t1.size
  clear r1 t1 x1 HO0 HR0 HT0 HW0
  go_wp2_with fail
  with_reducible refine (pick_any g (B + 1) 10 w1 HR1.out (by omega)).mono ?_
  rintro e w2 ⟨y, rfl, ⟨y0, y1, -⟩, r2, t2, -⟩
  obtain ⟨Y, rfl⟩ := Int.eq_ofNat_of_zero_le y0
  have hY : Y < 10 := by have := y1 (by omega); omega
  have HT2 := Lib.hid (turned_trans HT1.out t2)
  have HR2 := Lib.hid r2
  have HO2 := Lib.hid ((HO1.out.turned t2 (Nat.le_refl _) (.inr (by omega))).wide (Nat.le_refl _) t2.size)
  have hs2 : w.heap.size ≤ w2.heap.size := Nat.le_trans hs1 t2.size
  clear r2 t2 y1 HO1 HR1 HT1
  have hxc : x = 0 ∨ x = 1 ∨ x = 2 := by omega
  rcases hxc with rfl | rfl | rfl
  all_goals
    go_wp2_with fail
    go_loopw [5, 7] (fun v k wr => ∃ (j : Nat) (zs : List Int) (C : Nat), k = .int .i64 j ∧ zs.length + j ≤ 9 ∧ Hid (Own wr w.heap.size wr.heap.size v zs) ∧ Hid (Rdr wr g C) ∧ C + 2 * j ≤ B + 30 ∧ Hid (Turned g (g + 1) w wr) ∧ w.heap.size ≤ wr.heap.size)
      (fun _ k _ => (intOf k).toNat)
    case atStart => exact ⟨Y, [], B + 2, rfl, by simp; omega, HO2, HR2, by omega, HT2, hs2⟩
    case round =>
      clear HO2 HR2 HT2 hs2
      obtain ⟨j, zs, C, rfl, hlen, hO, hR, hC, hT, hsz⟩ := hrel
      rcases j with _ | j
      · go_wp2_with fail
        with_reducible refine (odd_any g C n _ hR.out (by omega)).mono ?_
        rintro e w3 ⟨b, rfl, -, r3, t3, -⟩
        have HT3 := Lib.hid (turned_trans hT.out t3)
        have HR3 := Lib.hid r3
        have ho3 := (hO.out.turned t3 (Nat.le_refl _) (.inr (by omega))).wide (Nat.le_refl _) t3.size
        have hs3 : w.heap.size ≤ w3.heap.size := Nat.le_trans hsz t3.size
        clear r3 t3 hO hR hT
        cases b with
        | false =>
          have HO3 := Lib.hid ho3
          clear ho3
          go_wp2
          go_ret
          exact ⟨⟨_, zs, rfl, by omega, HO3.out⟩, rdr_more HR3.out (by omega), HT3.out⟩
        | true =>
          have HO3 := Lib.hid ho3
          clear ho3
          go_wp2_with fail
          with_reducible refine (pick_any g (C + 1) 2 _ HR3.out (by omega)).mono ?_
          rintro e w4 ⟨z, rfl, ⟨z0, z1, -⟩, r4, t4, -⟩
          have HT4 := Lib.hid (turned_trans HT3.out t4)
          have HR4 := Lib.hid r4
          have ho4 := (HO3.out.turned t4 (Nat.le_refl _) (.inr (by omega))).wide (Nat.le_refl _) t4.size
          have hs4 : w.heap.size ≤ w4.heap.size := Nat.le_trans hs3 t4.size
          have hoo := ho4.1
          clear r4 t4 HO3 HT3 HR3 z1
          obtain ⟨i0, hi, hz0, hz1, hz2⟩ := info_parts infoInt
          by_cases hz : z = 0
          · subst hz
            go_wp2_with (first | (at_builtin; go_loud (refine wpList_append_own _ rfl _ _ 23 rfl w.heap.size 3 i0 (.int .i64 0) 1 8 Try.underlying23 hi hz0 hz1 hz2 rfl (by decide) _ _ _ rfl (hoo.alloc _) ⟨w4.heap.size, 0, none⟩ 1 1 [.int .i64 51] rfl rfl (one_new _ _ _) ?c2 ?c3 ?c4 ?c5 ?_)) | fail)
            case c2 => first | exact one_cell _ _ | rfl
            case c3 => unfold maxLen; omega
            case c4 => omega
            case c5 => first | omega | (simp; omega)
            intro v' w5 hown' hgr _
            have HA := Lib.hid (turned_num ho4 HT4.out (Nat.le_refl _) hs4 hown' hgr)
            have HR5 := Lib.hid (rdr_app HR4.out ho4 (by omega) hgr)
            clear hown' hgr hoo ho4 hi hz0 hz1 hz2 HR4
            go_wp2
            go_ret
            exact ⟨⟨_, _, rfl, by simp; omega, HA.out.1⟩, rdr_more HR5.out (by omega), HA.out.2.1⟩
          · have hz' : (z == 0) = false := by rw [beq_eq_false_iff_ne]; exact hz
            have hmk : ∀ W : World, (Instr.makeSlice 23 (.int .i64 10) (.int .i64 10)).run Try.prog W = .ok (.slice (some ⟨W.heap.size, 0, none⟩) 10 10) (W.alloc (.cells (madeCells #[.int .i64 0] 10) 3)) := fun W => by
              have hr := run_make (P := Try.prog) W 23 3 i0 (.int .i64 0) Try.underlying23 hi hz0 .i64 .i64 10 10 (by omega) (by omega) (by rw [hz2]; omega) (by omega)
              simpa [hz1, Value.cells] using hr
            have HOM : Hid (Own (w4.alloc (.cells (madeCells #[.int .i64 0] 10) 3)) w.heap.size (w4.alloc (.cells (madeCells #[.int .i64 0] 10) 3)).heap.size (.slice (some ⟨w4.heap.size, 0, none⟩) 10 10) (List.replicate 10 0)) := by
              refine Own.new ?_ (Nat.le_refl _)
              have := World.ownsRow_lit w4 (e := 3) (base := w.heap.size) (size := 1) (madeCells #[.int .i64 0] 10) 10 hs4 (by unfold maxLen; omega) (by simp [size_madeCells])
              rw [toList_madeCells_one] at this
              rw [List.map_replicate]; exact this
            have HR5 := Lib.hid (rdr_alloc HR4.out (.cells (madeCells #[.int .i64 0] 10) 3))
            have HT5 := Lib.hid (turned_alloc HT4.out (.cells (madeCells #[.int .i64 0] 10) 3))
            generalize madeCells #[Value.int .i64 0] 10 = mc at *
            clear hoo ho4 hi hz0 hz1 hz2 HR4 hz
            go_wp2
            go_ret
            exact ⟨⟨_, _, rfl, by simp, HOM.out⟩, rdr_more HR5.out (by omega), HT5.out⟩
      · have hjp : (0 : Int) < ((j + 1 : Nat) : Int) := by omega
        obtain ⟨a9, c9, e9, -, -, -⟩ := hO.out.rd
        subst e9
        go_wp2_with fail
        with_reducible refine (pick_any g C 10 _ hR.out (by omega)).mono ?_
        rintro e w3 ⟨p1, rfl, -, r3, t3, -⟩
        have HT3 := Lib.hid (turned_trans hT.out t3)
        have HR3 := Lib.hid r3
        have HO3 := Lib.hid ((hO.out.turned t3 (Nat.le_refl _) (.inr (by omega))).wide (Nat.le_refl _) t3.size)
        have hs3 : w.heap.size ≤ w3.heap.size := Nat.le_trans hsz t3.size
        clear r3 t3 hO hR hT
        go_wp2_with fail
        with_reducible refine (pick_any g (C + 1) 51 _ HR3.out (by omega)).mono ?_
        rintro e w4 ⟨p2, rfl, -, r4, t4, -⟩
        have HT4 := Lib.hid (turned_trans HT3.out t4)
        have HR4 := Lib.hid r4
        have ho4 := (HO3.out.turned t4 (Nat.le_refl _) (.inr (by omega))).wide (Nat.le_refl _) t4.size
        have hs4 : w.heap.size ≤ w4.heap.size := Nat.le_trans hs3 t4.size
        have hoo := ho4.1
        clear r4 t4 HO3 HT3 HR3
        obtain ⟨i0, hi, hz0, hz1, hz2⟩ := info_parts infoInt
        go_wp2_with (first | (at_builtin; (refine wpList_append_own _ rfl _ _ 23 rfl w.heap.size 3 i0 (.int .i64 0) 1 8 Try.underlying23 hi hz0 hz1 hz2 rfl (by decide) _ _ _ rfl ((hoo.alloc _).alloc _) ⟨w4.heap.size + 1, 0, none⟩ 1 1 [.int .i64 ((zs.length : Int) + 1)] rfl rfl (one_new2 _ _ _ _) ?c2 ?c3 ?c4 ?c5 ?_)) | (at_builtin; (refine wpList_append_own _ rfl _ _ 23 rfl w.heap.size 3 i0 (.int .i64 0) 1 8 Try.underlying23 hi hz0 hz1 hz2 rfl (by decide) _ _ _ rfl ((hoo.alloc _).alloc _) ⟨w4.heap.size + 1, 0, none⟩ 1 1 [.int .i64 (p1)] rfl rfl (one_new2 _ _ _ _) ?c2 ?c3 ?c4 ?c5 ?_)) | (at_builtin; (refine wpList_append_own _ rfl _ _ 23 rfl w.heap.size 3 i0 (.int .i64 0) 1 8 Try.underlying23 hi hz0 hz1 hz2 rfl (by decide) _ _ _ rfl ((hoo.alloc _).alloc _) ⟨w4.heap.size + 1, 0, none⟩ 1 1 [.int .i64 (p2)] rfl rfl (one_new2 _ _ _ _) ?c2 ?c3 ?c4 ?c5 ?_)) | fail)
        case c2 => first | exact one_cell _ _ | rfl
        case c3 => unfold maxLen; omega
        case c4 => omega
        case c5 => first | omega | (simp; omega)
        intro v' w5 hown' hgr _
        have ho5 : Own (w4.alloc (.cells #[.int .i64 ((zs.length : Int) + 1), .int .i64 p1, .int .i64 p2] 3)) w.heap.size (w4.alloc (.cells #[.int .i64 ((zs.length : Int) + 1), .int .i64 p1, .int .i64 p2] 3)).heap.size (.slice a9 zs.length c9) zs := (ho4.keep fun k hk1 hk2 => Below.heap_alloc _ _ _ hk2).wide (Nat.le_refl _) (by simp)
        have HA := Lib.hid (turned_num ho5 (turned_alloc HT4.out _) (Nat.le_refl _) (by simp; omega) hown' hgr)
        have HR5 := Lib.hid (rdr_app (rdr_alloc HR4.out _) ho5 (by omega) hgr)
        clear hown' hgr hoo ho4 ho5 hi hz0 hz1 hz2 HR4
        go_wp2
        go_roundw
        case rel => exact ⟨j, _, C + 2, by go_num, by simp; omega, HA.out.1, HR5, by omega, HA.out.2.1, HA.out.2.2⟩
        case measure => simp [intOf]

end Go.Proofs.Ytcgpfdknadijlaa
