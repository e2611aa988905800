/- The walk of the law on RoomOk. -/
import Derived.Test.YtnpfjpihcdlmhaaDrawAv
import Derived.Test.YtnpfjpihcdlmhaaAlive
namespace Go.Proofs.Ytnpfjpihcdlmhaa
open Go.RowKit

theorem roomB_zero : roomB 0 0 [] = false := by decide +kernel

set_option maxHeartbeats 800000 in
set_option maxRecDepth 100000 in
theorem walk_FnRoomOk (a0 : Option Addr) (len0 cap0 : Nat) (z0 : List Int) (w : World) (w0 : IsRowB .u8 w a0 len0 cap0 z0) :
    Calls Try.prog 15 #[.slice a0 len0 cap0] w fun e w' => e = .returned (.bool true) ∧ Below w.heap.size w w' := by
  by_cases hlen : 1048576 < len0
  · go_enter Try.func15, Try.ntmps15
    go_wp2
    go_ret
    exact ⟨rfl, Below.refl _ _⟩
  · go_enter Try.func15, Try.ntmps15
    go_wp2_with fail
    refine (DrawRoomOk_any _ _ _ _ _ w0).mono ?_
    rintro e w1 ⟨⟨sw, cnt, A, c, L, rfl, hcn, hL, ho⟩, b1⟩
    have s1 := b1.size
    obtain ⟨w2, hw2⟩ : ∃ w2 : World, w2 = w1.alloc (.cells #[.int .i64 sw, .int .i64 cnt, .slice A L.length c] 30) := ⟨_, rfl⟩
    have ba := (Below.refl w1.heap.size w1).alloc (Nat.le_refl _) (.cells #[.int .i64 sw, .int .i64 cnt, .slice A L.length c] 30)
    have g2 := heap_alloc_new w1 (.cells #[.int .i64 sw, .int .i64 cnt, .slice A L.length c] 30)
    rw [← hw2] at ba g2
    have s2 : w2.heap.size = w1.heap.size + 1 := by rw [hw2]; simp
    have hR := ho.rd.below ba
    have bb := b1.trans (ba.mono (by omega))
    have HW2 := Lib.hid hw2
    clear hw2 ba ho b1 w0
    go_wp2_with fail
    rw [← HW2.out]
    refine (implRoomOk_any sw cnt _ L w2 hR).mono ?_
    rintro e w3 ⟨rfl, b3⟩
    have s3 := b3.size
    have hR3 := hR.below b3
    have bb3 := bb.trans (b3.mono (by omega))
    have g3 := (b3.block _ (by omega)).trans g2
    obtain ⟨⟨k0, k1, k2⟩, -, -, -, kz⟩ := blk3 g3
    have HG := Lib.hid g3
    clear b3 hR bb g2 g3 HW2
    obtain ⟨b, hb⟩ : ∃ b, b = roomB sw cnt L := ⟨_, rfl⟩
    rw [← hb]
    have HBB := Lib.hid hb
    clear hb
    go_wp2_with fail
    refine (specRoomOk_any sw cnt _ L w3 hR3 (by omega) (by omega)).mono ?_
    rintro e w4 ⟨rfl, b4⟩
    rw [← HBB.out]
    have s4 := b4.size
    have hR4 := hR3.below b4
    have bb4 := bb3.trans (b4.mono (by omega))
    have g4 := (b4.block _ (by omega)).trans HG.out
    clear k0 k1 k2 kz HG b4 hR3 bb3
    obtain ⟨⟨k0, k1, k2⟩, -, -, -, kz⟩ := blk3 g4
    clear g4
    have HB := Lib.hid bb4
    clear bb4
    have H9 := Lib.hid (implRoomOk_any 0 0 (.slice none 0 0) [] w4 ⟨none, 0, rfl, by simp, by omega, fun h => absurd h (by simp)⟩)
    rcases b with _ | _
    · go_wp2_with fail
      refine H9.out.mono ?_
      rintro e w5 ⟨rfl, b5⟩
      rw [roomB_zero]
      have HB5 := Lib.hid (HB.out.trans (b5.mono (by omega)))
      clear b5
      go_wp2_with fail
      refine (alive_true _).mono ?_
      rintro e w6 ⟨rfl, rfl⟩
      go_wp2
      go_ret
      exact ⟨rfl, HB5.out⟩
    · obtain ⟨r1, r2, r3, r4, r5, r6, r7, r8⟩ := roomB_yes HBB.out.symm
      have hsum : sumI L ≤ (L.length : Int) - 1 := by
        cases L with
        | nil => simp at r1
        | cons x t =>
          have hx : x = 0 := by simpa using r7
          have := sumI_bd 1 t (fun z hz => r3 z (by simp [hz]))
          rw [sumI_cons, List.length_cons]; omega
      have hlt : cnt < (L.length : Int) := by omega
      obtain ⟨A', c', e9, m1, m2, m3⟩ := hR4
      injection e9 with e1 e2 e3
      subst e1 e3
      obtain ⟨g1, o1, z, rfl, hg1, x1, HZ⟩ := rd_at m3 0 (by omega)
      have hz0 : z = 0 := by rw [HZ.out]; exact r7
      subst hz0
      rw [Nat.add_zero] at x1
      clear hsum r3 r8 r7 HBB m3 HZ
      go_wp2_with fail
      refine H9.out.mono ?_
      rintro e w5 ⟨rfl, b5⟩
      rw [roomB_zero]
      have HB5 := Lib.hid (HB.out.trans (b5.mono (by omega)))
      clear b5
      go_wp2_with fail
      refine (alive_true _).mono ?_
      rintro e w6 ⟨rfl, rfl⟩
      go_wp2
      go_ret
      exact ⟨rfl, HB5.out⟩
end Go.Proofs.Ytnpfjpihcdlmhaa
