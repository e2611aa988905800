/- The walk of the law on RoomNew. -/
import Derived.Test.YtnpfjpihcdlmhaaRoomOk
import Derived.Test.YtnpfjpihcdlmhaaDraws
import Derived.Test.YtnpfjpihcdlmhaaAlive
import Derived.Deep.RegionHeld3
namespace Go.Proofs.Ytnpfjpihcdlmhaa
open Go.RowKit

theorem newDone_len2 (p : Int) : (newDone p).length ≤ 5 := by
  unfold newDone
  split
  · simp; omega
  · simp

set_option maxRecDepth 100000 in
theorem noRoom_true (a : Option Addr) (c : Nat) (w : World) (hc : c ≤ 9223372036854775807) :
    Calls Try.prog 48 #[.agg #[.int .i64 0, .int .i64 0, .slice a 0 c]] w fun e w' => e = .returned (.bool true) ∧ Below w.heap.size w w' := by
  go_enter Try.func48, Try.ntmps48
  have hb : Below w.heap.size w (w.alloc (.cells #[.int .i64 0, .int .i64 0, .slice a 0 c] 30)) := (Below.refl _ _).alloc (Nat.le_refl _) _
  have HB := Lib.hid hb; clear hb
  go_wp2_with fail
  refine (sameRoom_true 0 0 _ _ [] _ ⟨a, c, rfl, by simp, hc, fun h => absurd h (by simp)⟩ ⟨none, 0, rfl, by simp, by omega, fun h => absurd h (by simp)⟩).mono ?_
  rintro e w2 ⟨rfl, b2⟩
  have HB2 := Lib.hid (HB.out.trans (b2.mono (by simp)))
  clear b2
  go_wp2
  go_ret
  exact ⟨rfl, HB2.out⟩

set_option maxRecDepth 100000 in
theorem walk_FnRoomNew (a0 : Option Addr) (len0 cap0 : Nat) (z0 : List Int) (w : World) (w0 : IsRowB .u8 w a0 len0 cap0 z0) :
    Calls Try.prog 12 #[.slice a0 len0 cap0] w fun e w' => e = .returned (.bool true) ∧ Below w.heap.size w w' := by
  by_cases hlen : 1048576 < len0
  · go_enter Try.func12, Try.ntmps12
    go_wp2
    go_ret
    exact ⟨rfl, Below.refl _ _⟩
  · go_enter Try.func12, Try.ntmps12
    go_wp2_with fail
    refine (DrawRoomNew_any _ _ _ _ _ w0).mono ?_
    rintro e w1 ⟨⟨P, rfl, hP0, hP1⟩, b1⟩
    have s1 := b1.size
    clear w0
    go_wp2_with fail
    refine (implRoomNew_any P _).mono ?_
    rintro e w2 ⟨v, rfl, o2, b2⟩
    obtain ⟨A, c, e2, m1, m2, m3⟩ := o2.rd
    subst e2
    obtain ⟨L, hL⟩ : ∃ L, L = (newDone P).length := ⟨_, rfl⟩
    rw [← hL] at o2 m1 ⊢
    have HL := Lib.hid hL; clear hL
    have s2 := b2.size
    have bb := b1.trans (b2.mono s1)
    obtain ⟨w3, hw3⟩ : ∃ w3 : World, w3 = w2.alloc (.cells #[.int .i64 0, .int .i64 0, .slice A L c] 30) := ⟨_, rfl⟩
    have ba := (Below.refl w2.heap.size w2).alloc (Nat.le_refl _) (.cells #[.int .i64 0, .int .i64 0, .slice A L c] 30)
    have g3 := heap_alloc_new w2 (.cells #[.int .i64 0, .int .i64 0, .slice A L c] 30)
    rw [← hw3] at ba g3
    have o3 := o2.below ba (Nat.le_refl _)
    have s3 := ba.size
    have bb3 := bb.trans (ba.mono (by omega))
    obtain ⟨⟨k0, k1, k2⟩, -, -, -, kz⟩ := blk3 g3
    have HW3 := Lib.hid hw3; have HG := Lib.hid g3; have HB := Lib.hid bb3
    clear b1 b2 bb o2 hw3 ba g3 bb3 m3
    go_wp2_with fail
    rw [← HW3.out]
    go_region_held3 (fun wx => wx.cell? ⟨w2.heap.size, 0, none⟩ = some (.int .i64 0) ∧ wx.cell? ⟨w2.heap.size, 1, none⟩ = some (.int .i64 0) ∧ wx.cell? ⟨w2.heap.size, 2, none⟩ = some (.slice A L c)) (first | exact ⟨(b8.cell qz).trans q0, (b8.cell qz).trans q1, (b8.cell qz).trans q2⟩ | exact ⟨q0, q1, q2⟩ | go_keep)
      (first | (go_at_call 27; refine (specRoomNew_any P _).mono ?_; rintro e w7 ⟨v7, rfl, o7, b7⟩; obtain ⟨A7, n7, c7, rfl⟩ := own_form o7; obtain ⟨⟨q0, q1, q2⟩, -, -, -, qz⟩ := blk3 ((b7.block _ (by exact kz)).trans (by exact HG.out))) | (go_at_call 47; refine (sameRoom_true _ _ _ _ (newDone P) _ (Rd.below (by exact o3.rd) b7) o7.rd).mono ?_; rintro e w8 ⟨rfl, b8⟩))
    obtain ⟨⟨r0, r1, r2⟩, rz⟩ : (w8.cell? ⟨w2.heap.size, 0, none⟩ = some (.int .i64 0) ∧ w8.cell? ⟨w2.heap.size, 1, none⟩ = some (.int .i64 0) ∧ w8.cell? ⟨w2.heap.size, 2, none⟩ = some (.slice A L c)) ∧ w2.heap.size < w8.heap.size :=
      ⟨⟨(b8.cell qz).trans q0, (b8.cell qz).trans q1, (b8.cell qz).trans q2⟩, Nat.lt_of_lt_of_le qz b8.size⟩
    have hR8 : Rd w8 (.slice A L c) (newDone P) := Rd.below (Rd.below (by exact o3.rd) b7) b8
    have hbf := ((HB.out.drew).trans (b7.mono (by rw [World.size_drew]; omega))).trans (b8.mono (by have := b7.size; rw [World.size_drew] at this; omega))
    have HBF := Lib.hid hbf
    have hz8 := hbf.size
    clear hbf b7 b8 k0 k1 k2 q0 q1 q2 o7 HG HB HW3 o3
    by_cases hp : 1 ≤ P ∧ P ≤ 5
    · obtain ⟨hp1, hp2⟩ := hp
      obtain ⟨M, rfl⟩ := Int.eq_ofNat_of_zero_le (a := P) (by omega)
      have hn : newDone (M : Int) = List.replicate M 0 := by unfold newDone; rw [if_pos (by omega)]; rfl
      obtain rfl : L = M := by have := HL.out; rw [hn] at this; simpa using this
      rw [hn] at hR8
      have hrm : roomB 0 0 (List.replicate L 0) = true := by
        refine roomB_mk (by simp; omega) (by simp; omega) (fun z hz => by have := List.eq_of_mem_replicate hz; omega) (by omega) (by omega) (by omega) ?_ ?_
        · have hM : 0 < L := by omega
          simp [List.getD, hM]
        · have := sumI_bd 0 (List.replicate L 0) (fun z hz => by have := List.eq_of_mem_replicate hz; omega)
          omega
      have HM := Lib.hid hrm
      clear hn hrm
      go_wp2_with fail
      refine (implRoomOk_any 0 0 _ (List.replicate L 0) _ hR8).mono ?_
      rintro e w9 ⟨rfl, b9⟩
      rw [HM.out]
      have k0 := (b9.cell (p := ⟨w2.heap.size, 0, none⟩) rz).trans r0
      have k1 := (b9.cell (p := ⟨w2.heap.size, 1, none⟩) rz).trans r1
      have k2 := (b9.cell (p := ⟨w2.heap.size, 2, none⟩) rz).trans r2
      have HB9 := Lib.hid (HBF.out.trans (b9.mono (by omega)))
      clear b9 r0 r1 r2
      go_wp2_with fail
      go_ret
      exact ⟨rfl, HB9.out⟩
    · have hn : newDone P = [] := by unfold newDone; rw [if_neg hp]
      obtain rfl : L = 0 := by have := HL.out; rw [hn] at this; simpa using this
      clear hn
      have hcc : c ≤ 9223372036854775807 := by omega
      have H9 := Lib.hid (noRoom_true A c w8 hcc)
      by_cases hp1 : P < 1
      · clear hp
        go_wp2_with fail
        refine H9.out.mono ?_
        rintro e w9 ⟨rfl, b9⟩
        have HB9 := Lib.hid (HBF.out.trans (b9.mono (by omega)))
        clear b9
        go_wp2_with fail
        refine (alive_true _).mono ?_
        rintro e w10 ⟨rfl, rfl⟩
        go_wp2
        go_ret
        exact ⟨rfl, HB9.out⟩
      · have hp5 : 5 < P := by omega
        clear hp
        go_wp2_with fail
        refine H9.out.mono ?_
        rintro e w9 ⟨rfl, b9⟩
        have HB9 := Lib.hid (HBF.out.trans (b9.mono (by omega)))
        clear b9
        go_wp2_with fail
        refine (alive_true _).mono ?_
        rintro e w10 ⟨rfl, rfl⟩
        go_wp2
        go_ret
        exact ⟨rfl, HB9.out⟩
end Go.Proofs.Ytnpfjpihcdlmhaa
