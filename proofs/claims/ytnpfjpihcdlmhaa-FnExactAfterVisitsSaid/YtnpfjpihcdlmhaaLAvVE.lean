/- The walk of the law on the exactness of AfterVisits. -/
import Derived.Test.YtnpfjpihcdlmhaaRoomEx
namespace Go.Proofs.Ytnpfjpihcdlmhaa
open Go.RowKit

theorem roomI_len (p : Int) (zs : List Int) : (roomI p zs).2.2.length ≤ 5 := by
  unfold roomI
  split
  · rename_i hv
    have := (stV_len hv zs.length (Nat.le_refl _)).2
    have := (visB_yes hv).2.1
    omega
  · simp

set_option maxHeartbeats 800000 in
set_option maxRecDepth 100000 in
theorem walk_FnExactAfterVisits (a0 : Int) (a1 : Option Addr) (len1 cap1 : Nat) (z1 : List Int) (w : World) (w0 : (Lit.int .i64 a0).wf = true) (w1 : IsRowB .i64 w a1 len1 cap1 z1) :
    Calls Try.prog 9 #[.int .i64 a0, .slice a1 len1 cap1] w fun e w' => e = .returned (.bool true) ∧ Below w.heap.size w w' := by
  obtain ⟨hR, hl, hz⟩ := rd_of_row w1
  have hp := bd_i64 w0
  generalize z1.take len1 = zs at *
  have HL := Lib.hid hl; clear hl w0 w1 hz
  by_cases hlen : 1048576 < len1
  · go_enter Try.func9, Try.ntmps9
    go_wp2
    go_ret
    exact ⟨rfl, Below.refl _ _⟩
  · have hz : zs.length ≤ 35184372088832 := by have := HL.out; omega
    have hz2 : zs.length ≤ 1048576 := by have := HL.out; omega
    obtain ⟨sw, cnt, L, he⟩ : ∃ a b c, roomI a0 zs = (a, b, c) := ⟨_, _, _, rfl⟩
    have hL : L.length ≤ 5 := by have := roomI_len a0 zs; rw [he] at this; exact this
    have H1 : Hid (∀ (W : World) (u : Value), Rd W u zs → Calls Try.prog 40 #[.int .i64 a0, u] W fun e w' => ∃ v', e = .returned (.agg #[.int .i64 sw, .int .i64 cnt, v']) ∧ Own w' W.heap.size w'.heap.size v' L ∧ Below W.heap.size W w') := fun W u h => by
      have := specAfterVisits_any u zs a0 W h hp
      rw [he] at this; exact this
    have H2 : Hid (∀ (W : World) (u : Value), Rd W u zs → Calls Try.prog 41 #[.int .i64 a0, u] W fun e w' => ∃ v', e = .returned (.agg #[.int .i64 sw, .int .i64 cnt, v']) ∧ Own w' W.heap.size w'.heap.size v' L ∧ Below W.heap.size W w') := fun W u h => by
      have := implAfterVisits_any u zs a0 W h hp
      rw [he] at this; exact this
    clear he hp
    go_enter Try.func9, Try.ntmps9
    go_wp2_with fail
    refine (toIntS_any _ zs _ hR hz).mono ?_
    rintro e w1 ⟨u, rfl, o1, b1⟩
    go_wp2_with fail
    refine (H1.out _ _ o1.rd).mono ?_
    rintro e w2 ⟨v0, rfl, o2, b2⟩
    obtain ⟨A0, n0, c0, rfl⟩ := own_form o2
    have s1 := b1.size
    have s2 := b2.size
    have ba := (Below.refl w2.heap.size w2).alloc (Nat.le_refl _) (.cells #[.int .i64 sw, .int .i64 cnt, .slice A0 n0 c0] 30)
    have bb := (b1.trans (b2.mono s1)).trans (ba.mono (by omega))
    have hR2 := hR.below bb
    clear o1
    go_wp2_with fail
    refine (toIntS_any _ zs _ hR2 hz).mono ?_
    rintro e w3 ⟨x1, rfl, o3, b3⟩
    have s3 := b3.size
    rw [World.size_alloc] at s3 b3 o3
    have g3 : w3.heap[w2.heap.size]? = some (.cells #[.int .i64 sw, .int .i64 cnt, .slice A0 n0 c0] 30 (0, 0)) := (b3.block _ (by omega)).trans (heap_alloc_new _ _)
    have o23 := (o2.below ba (Nat.le_refl _)).below b3 (by omega)
    have bb3 := bb.trans (b3.mono (by omega))
    clear o2 ba b2 b1 bb hR2 b3
    have G3 := Lib.hid g3
    clear g3
    go_wp2_with fail
    refine (H2.out _ _ o3.rd).mono ?_
    rintro e w4 ⟨v1, rfl, o4, b4⟩
    obtain ⟨A1, n1, c1, rfl⟩ := own_form o4
    have s4 := b4.size
    have st : AvS w (.slice a1 len1 cap1) x1 (.slice A0 n0 c0) (.slice A1 n1 c1) zs L zs L sw cnt w1.heap.size w2.heap.size w2.heap.size (w2.heap.size + 1) w3.heap.size w3.heap.size w4.heap.size w4.heap.size (w4.alloc (.cells #[.int .i64 sw, .int .i64 cnt, .slice A1 n1 c1] 30)) := by
      have ba := (Below.refl w4.heap.size w4).alloc (Nat.le_refl _) (.cells #[.int .i64 sw, .int .i64 cnt, .slice A1 n1 c1] 30)
      exact ⟨(bb3.trans (b4.mono (by omega))).trans (ba.mono (by omega)), hR, (o3.below b4 (by omega)).below ba (by omega), (ba.block _ (by omega)).trans ((b4.block _ (by omega)).trans G3.out),
        (o23.below b4 (by omega)).below ba (by omega), heap_alloc_new _ _, o4.below ba (Nat.le_refl _), by omega, by omega, by omega, by omega, by omega, by simp, by omega, by omega, by omega, by omega⟩
    have k0 := (b4.block _ (by omega)).trans G3.out
    obtain ⟨⟨i0, i1, i2⟩, -, -, -, iz⟩ := blk3 k0
    have ST := Lib.hid st
    clear st o3 o23 bb3 o4 b4 G3 k0 s1 s2 s3 s4
    have r1 := ST.out.o1.rd
    have r0 := ST.out.o0.rd
    go_wp2_with fail
    refine (eqRoom_true _ _ _ _ L _ r1 r0).mono ?_
    rintro e w5 ⟨rfl, b5⟩
    have st := ST.out.below b5 rfl
    clear ST b5 r1 r0 i0 i1 i2 iz
    have ST := Lib.hid st
    have hR5 := st.rd
    clear st
    go_wp2_with fail
    refine (toIntS_any _ zs _ hR5 hz).mono ?_
    rintro e w6 ⟨u6, rfl, o6, b6⟩
    have st := ST.out.below b6 rfl
    have ox := st.ox.rd
    clear ST hR5 b6
    have ST := Lib.hid st
    clear st
    go_wp2_with fail
    refine (eqIntS_true _ _ zs _ ox o6.rd).mono ?_
    rintro e w7 ⟨rfl, n, rfl⟩
    have st := ST.out.drewN n
    clear ST o6 ox
    have ST := Lib.hid st
    have ox := st.ox
    clear st
    go_wp2_with fail
    refine (markIntS_any _ _ _ zs 1 _ ox (by omega) (by omega)).mono ?_
    rintro e w8 ⟨rfl, o8, t8, -⟩
    have st := ST.out.turnX o8 t8
    clear ST ox o8 t8
    obtain ⟨⟨i0, i1, i2⟩, -, -, -, -⟩ := blk3 st.k0
    obtain ⟨⟨j0, j1, j2⟩, -, -, -, -⟩ := blk3 st.k1
    have r1 := st.o1.rd
    have r0 := st.o0.rd
    have ST := Lib.hid st
    clear st
    go_wp2_with fail
    refine (eqRoom_true _ _ _ _ L _ r1 r0).mono ?_
    rintro e w9 ⟨rfl, b9⟩
    have st := ST.out.below b9 rfl
    clear ST b9 r1 r0 i0 i1 i2 j0 j1 j2
    obtain ⟨⟨j0, j1, j2⟩, -, -, -, -⟩ := blk3 st.k1
    have o9 := st.o1
    have hh9 := st.a4
    have hh9b := st.a5
    have ST := Lib.hid st
    clear st
    go_wp2_with fail
    refine (markRoom_any _ _ _ _ _ L 1 _ o9 (by omega) (by omega) (by omega)).mono ?_
    rintro e w10 ⟨rfl, o10, t10⟩
    have st := ST.out.turn1 o10 t10
    clear ST o9 o10 t10 j0 j1 j2 hh9 hh9b
    obtain ⟨⟨j0, j1, j2⟩, -, -, -, -⟩ := blk3 st.k1
    have r1 := st.o1.rd
    have ST := Lib.hid st
    clear st
    go_wp2_with fail
    refine (heldRoom_up _ _ _ L.length 1 _ r1 (by omega) (by omega)).mono ?_
    rintro e w11 ⟨rfl, b11⟩
    have st := ST.out.below b11 rfl
    clear ST b11 r1 j0 j1 j2
    have hR11 := st.rd
    have ST := Lib.hid st
    clear st
    go_wp2_with fail
    refine (toIntS_any _ zs _ hR11 hz).mono ?_
    rintro e w12 ⟨u12, rfl, o12, b12⟩
    have st := ST.out.below b12 rfl
    clear ST b12 hR11
    have ST := Lib.hid st
    clear st
    go_wp2_with fail
    refine (H2.out _ _ o12.rd).mono ?_
    rintro e w13 ⟨v13, rfl, o13, b13⟩
    obtain ⟨A3, n3, c3, rfl⟩ := own_form o13
    have st := ST.out.below b13 rfl
    clear ST b13 o12
    obtain ⟨⟨i0, i1, i2⟩, -, -, -, iz⟩ := blk3 st.k0
    have st2 := st.alloc (.cells #[.int .i64 sw, .int .i64 cnt, .slice A3 n3 c3] 30)
    have r0 := st2.o0.rd
    have r3 := o13.rd.below ((Below.refl w13.heap.size w13).alloc (Nat.le_refl _) (.cells #[.int .i64 sw, .int .i64 cnt, .slice A3 n3 c3] 30))
    have ST := Lib.hid st2
    clear st st2 o13
    go_wp2_with fail
    refine (eqRoom_true _ _ _ _ L _ r3 r0).mono ?_
    rintro e w14 ⟨rfl, b14⟩
    have st := ST.out.below b14 rfl
    clear ST b14 r3 r0 i0 i1 i2 iz
    obtain ⟨⟨j0, j1, j2⟩, -, -, -, -⟩ := blk3 st.k1
    have r1 := st.o1.rd
    have ST := Lib.hid st
    clear st
    go_wp2_with fail
    refine (heldRoom_up _ _ _ L.length 1 _ r1 (by omega) (by omega)).mono ?_
    rintro e w15 ⟨rfl, b15⟩
    have st := ST.out.below b15 rfl
    clear ST b15 r1 j0 j1 j2
    have HF := Lib.hid st.bel
    clear st
    go_wp2
    go_ret
    exact ⟨rfl, HF.out⟩
end Go.Proofs.Ytnpfjpihcdlmhaa
