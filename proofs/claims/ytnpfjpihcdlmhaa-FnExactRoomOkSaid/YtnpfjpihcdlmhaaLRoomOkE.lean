/- The walk of the law on the exactness of RoomOk. -/
import Derived.Test.YtnpfjpihcdlmhaaRoomOk
import Derived.Test.YtnpfjpihcdlmhaaArg
import Derived.Deep.RegionHeld3
namespace Go.Proofs.Ytnpfjpihcdlmhaa
open Go.RowKit

set_option maxRecDepth 100000 in
theorem walk_FnExactRoomOk (v0 : Value) (w : World) (w0 : ArgRoom w v0) :
    Calls Try.prog 7 #[v0] w fun e w' => e = .returned (.bool true) ∧ Below w.heap.size w w' := by
  obtain ⟨sw, cnt, a, len, cap, z, rfl, ws, wc, wr⟩ := w0
  obtain ⟨hR, hl, hz⟩ := rd_of_row wr
  have hc := bd_i64 wc
  generalize z.take len = zs at *
  have HL := Lib.hid hl; clear hl ws wc hz
  have hbox : ∀ o : Obj, Below w.heap.size w (w.alloc o) := fun o => (Below.refl _ _).alloc (Nat.le_refl _) o
  have HBX := Lib.hid hbox; clear hbox
  obtain ⟨W, hW⟩ : ∃ W : World, W = w.alloc (.cells #[.int .i64 sw, .int .i64 cnt, .slice a len cap] 36) := ⟨_, rfl⟩
  have hb : Below w.heap.size w W := by rw [hW]; exact HBX.out _
  have hRW := hR.below hb
  have hsW : W.heap.size = w.heap.size + 1 := by rw [hW]; simp
  have hblk : W.heap[w.heap.size]? = some (.cells #[.int .i64 sw, .int .i64 cnt, .slice a len cap] 36 (0, 0)) := by rw [hW]; exact heap_alloc_new _ _
  obtain ⟨⟨k0, k1, k2⟩, -, -, -, kz⟩ := blk3 hblk
  have HW := Lib.hid hW; have HSW := Lib.hid hsW; have HK := Lib.hid hblk
  clear hW hsW hblk hR
  have hcap : len ≤ 9223372036854775807 := by obtain ⟨_, _, _, q1, q2, _⟩ := hRW; have := HL.out; omega
  go_enter Try.func7, Try.ntmps7
  go_wp2_with fail
  rw [← HW.out]
  refine (szRoom_any sw cnt a len cap W hcap).mono ?_
  rintro e w1 ⟨⟨l, rfl, hl⟩, b1⟩
  by_cases hlen : 1048576 < len
  · have hl0 : l < 0 := hl.2 hlen
    have hb1 := hb.trans (b1.mono (by omega))
    clear hl b1
    go_wp2_with fail
    go_ret
    exact ⟨rfl, hb1⟩
  · have hl0 : ¬ l < 0 := fun h => hlen (hl.1 h)
    have hb1 := hb.trans (b1.mono (by omega))
    have s1 := b1.size
    have hR1 := hRW.below b1
    have hblk1 := (b1.block _ kz).trans HK.out
    clear k0 k1 k2 hl b1 hRW HK
    obtain ⟨⟨k0, k1, k2⟩, -, -, -, kz1⟩ := blk3 hblk1
    have HK := Lib.hid hblk1; clear hblk1
    have hz : zs.length ≤ 35184372088832 := by have := HL.out; omega
    go_wp2_with fail
    refine (toRoom_any _ _ _ zs _ hR1 hz).mono ?_
    rintro e w2 ⟨⟨A2, n2, c2, rfl, o2⟩, b2⟩
    have s2 := b2.size
    have hb2 := hb1.trans (b2.mono (by omega))
    have hR2 := hR1.below b2
    have hblk2 := (b2.block _ kz1).trans HK.out
    clear k0 k1 k2 b2 hR1 HK hb1
    obtain ⟨⟨k0, k1, k2⟩, -, -, -, kz2⟩ := blk3 hblk2
    have HK := Lib.hid hblk2; clear hblk2
    go_wp2_with fail
    refine (specRoomOk_any _ _ _ zs _ o2.rd hc (by have := HL.out; omega)).mono ?_
    rintro e w3 ⟨rfl, b3⟩
    have s3 := b3.size
    have hb3 := hb2.trans (b3.mono (by omega))
    have hR3 := hR2.below b3
    have hblk3 := (b3.block _ kz2).trans HK.out
    clear k0 k1 k2 b3 hR2 HK hb2 o2
    obtain ⟨⟨k0, k1, k2⟩, -, -, -, kz3⟩ := blk3 hblk3
    have HK := Lib.hid hblk3; clear hblk3
    go_wp2_with fail
    refine (toRoom_any _ _ _ zs _ hR3 hz).mono ?_
    rintro e w4 ⟨⟨A4, n4, c4, rfl, o4⟩, b4⟩
    have s4 := b4.size
    have hb4 := hb3.trans (b4.mono (by omega))
    have hR4 := hR3.below b4
    have hblk4 := (b4.block _ kz3).trans HK.out
    clear k0 k1 k2 b4 hR3 HK hb3
    have bx := HBX
    have ba := (Below.refl w4.heap.size w4).alloc (Nat.le_refl _) (.cells #[.int .i64 sw, .int .i64 cnt, .slice A4 n4 c4] 30)
    obtain ⟨w5, hw5⟩ : ∃ w5 : World, w5 = w4.alloc (.cells #[.int .i64 sw, .int .i64 cnt, .slice A4 n4 c4] 30) := ⟨_, rfl⟩
    have g5 : w5.heap[w4.heap.size]? = some (.cells #[.int .i64 sw, .int .i64 cnt, .slice A4 n4 c4] 30 (0, 0)) := by rw [hw5]; exact heap_alloc_new _ _
    rw [← hw5] at ba
    have s5 := ba.size
    have s5b := (Array.getElem?_eq_some_iff.1 g5).1
    have hb5 := hb4.trans (ba.mono (by omega))
    have hR5 := hR4.below ba
    have o5 := o4.below ba (Nat.le_refl _)
    have hblk5 := (ba.block _ (by omega)).trans hblk4
    have HW5 := Lib.hid hw5
    clear hw5 ba hb4 hR4 o4 hblk4 bx
    go_wp2_with fail
    rw [← HW5.out]
    refine (implRoomOk_any _ _ _ zs _ o5.rd).mono ?_
    rintro e w6 ⟨rfl, b6⟩
    have s6 := b6.size
    have hb6 := hb5.trans (b6.mono (by omega))
    have hR6 := hR5.below b6
    have o6 := o5.below b6 (by omega)
    have hblk6 := (b6.block _ (by omega)).trans hblk5
    have g6 := (b6.block _ (by omega)).trans g5
    obtain ⟨⟨k0, k1, k2⟩, -, -, -, kz6⟩ := blk3 hblk6
    obtain ⟨⟨j0, j1, j2⟩, -, -, -, jz6⟩ := blk3 g6
    have HK := Lib.hid hblk6; have HG := Lib.hid g6
    clear b6 hb5 hR5 o5 hblk5 g5 hblk6 g6 HW5 HW s1 s2 s3 s4 s5 s6
    obtain ⟨b, hb⟩ : ∃ b, b = roomB sw cnt zs := ⟨_, rfl⟩
    rw [← hb]
    clear hb
    go_wp2_with fail
    have HB6 := Lib.hid hb6; clear hb6
    go_region_held3 (fun w' => w'.cell? ⟨w4.heap.size, 0, none⟩ = some (.int .i64 sw) ∧ w'.cell? ⟨w4.heap.size, 1, none⟩ = some (.int .i64 cnt) ∧ w'.cell? ⟨w4.heap.size, 2, none⟩ = some (.slice A4 n4 c4) ∧ w'.cell? ⟨w.heap.size, 0, none⟩ = some (.int .i64 sw) ∧ w'.cell? ⟨w.heap.size, 1, none⟩ = some (.int .i64 cnt) ∧ w'.cell? ⟨w.heap.size, 2, none⟩ = some (.slice a len cap)) (first | exact ⟨(b8.cell qz).trans q0, (b8.cell qz).trans q1, (b8.cell qz).trans q2, (b8.cell pz).trans p0, (b8.cell pz).trans p1, (b8.cell pz).trans p2⟩ | exact ⟨q0, q1, q2, p0, p1, p2⟩ | go_keep)
      (first | (go_at_call 36; refine (toRoom_any _ _ _ zs _ (by exact hR6) hz).mono ?_; rintro e w7 ⟨⟨A7, n7, c7, rfl, o7⟩, b7⟩; obtain ⟨⟨q0, q1, q2⟩, -, -, -, qz⟩ := blk3 ((b7.block _ (by exact jz6)).trans (by exact HG.out)); obtain ⟨⟨p0, p1, p2⟩, -, -, -, pz⟩ := blk3 ((b7.block _ (by exact kz6)).trans (by exact HK.out))) | (go_at_call 29; refine (eqRoom_true _ _ _ _ zs _ (Rd.below (by exact o6.rd) b7) o7.rd).mono ?_; rintro e w8 ⟨rfl, b8⟩))
    have hbf := ((HB6.out.drew).trans (b7.mono (by rw [World.size_drew]; omega))).trans (b8.mono (by omega))
    have HBF := Lib.hid hbf; clear hbf b7 b8
    go_wp2
    go_ret
    exact ⟨rfl, HBF.out.os, HBF.out.tape, HBF.out.output, HBF.out.size, HBF.out.block⟩
end Go.Proofs.Ytnpfjpihcdlmhaa
