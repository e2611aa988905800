/- The walk of the law on the exactness of RoomNew. -/
import Derived.Test.YtnpfjpihcdlmhaaRoom
namespace Go.Proofs.Ytnpfjpihcdlmhaa
open Go.RowKit

theorem newDone_len (p : Int) : (newDone p).length ≤ 5 := by
  unfold newDone
  split
  · simp; omega
  · simp

set_option maxRecDepth 100000 in
theorem walk_FnExactRoomNew (a0 : Int) (_w0 : (Lit.int .i64 a0).wf = true) (w : World) :
    Calls Try.prog 5 #[.int .i64 a0] w fun e w' => e = .returned (.bool true) ∧ Below w.heap.size w w' := by
  have hL := newDone_len a0
  have H1 := Lib.hid (fun W => specRoomNew_any a0 W)
  have H2 := Lib.hid (fun W => implRoomNew_any a0 W)
  generalize newDone a0 = L at *
  go_enter Try.func5, Try.ntmps5
  go_wp2_with fail
  refine (H1.out _).mono ?_
  rintro e w1 ⟨v0, rfl, o0, b0⟩
  obtain ⟨A0, n0, c0, rfl⟩ := own_form o0
  go_wp2_with fail
  refine (H2.out _).mono ?_
  rintro e w2 ⟨v1, rfl, o1, b1⟩
  obtain ⟨A1, n1, c1, rfl⟩ := own_form o1
  rw [World.size_alloc] at o1 b1
  have s1 := b0.size
  have s2 := b1.size
  rw [World.size_alloc] at s2
  have g1 : w2.heap[w1.heap.size]? = some (.cells #[.int .i64 0, .int .i64 0, .slice A0 n0 c0] 30 (0, 0)) := (b1.block _ (by omega)).trans (heap_alloc_new _ _)
  obtain ⟨⟨k0, k1, k2⟩, -, -, -, kz⟩ := blk3 g1
  have bb : Below w.heap.size w w2 := (b0.alloc s1 _).trans (b1.mono (by omega))
  have o0b : Own w2 w.heap.size w1.heap.size (.slice A0 n0 c0) L := (o0.below ((Below.refl w1.heap.size w1).alloc (Nat.le_refl _) _) (Nat.le_refl _)).below b1 (by omega)
  have G1 := Lib.hid g1
  clear g1 b1 b0 o0
  have oo1 := (o1.below ((Below.refl w2.heap.size w2).alloc (Nat.le_refl _) (.cells #[.int .i64 0, .int .i64 0, .slice A1 n1 c1] 30)) (Nat.le_refl _))
  have oo0 := (o0b.below ((Below.refl w2.heap.size w2).alloc (Nat.le_refl _) (.cells #[.int .i64 0, .int .i64 0, .slice A1 n1 c1] 30)) (by omega))
  have bb2 := bb.alloc (by omega) (.cells #[.int .i64 0, .int .i64 0, .slice A1 n1 c1] 30)
  clear o1 o0b bb
  go_wp2_with fail
  refine (eqRoom_true _ _ _ _ L _ oo1.rd oo0.rd).mono ?_
  rintro e w3 ⟨rfl, b3⟩
  rw [World.size_alloc] at b3
  have s3 := b3.size
  rw [World.size_alloc] at s3
  have h1 : w3.heap[w1.heap.size]? = some (.cells #[.int .i64 0, .int .i64 0, .slice A0 n0 c0] 30 (0, 0)) := ((b3.block _ (by omega)).trans (Below.heap_alloc _ _ _ kz)).trans G1.out
  have h2 : w3.heap[w2.heap.size]? = some (.cells #[.int .i64 0, .int .i64 0, .slice A1 n1 c1] 30 (0, 0)) := (b3.block _ (by omega)).trans (heap_alloc_new _ _)
  clear k0 k1 k2 G1
  obtain ⟨⟨k0, k1, k2⟩, -, -, -, -⟩ := blk3 h2
  have p1 := oo1.below b3 (by omega)
  have p0 := oo0.below b3 (by omega)
  have bb3 := bb2.trans (b3.mono (by omega))
  clear oo1 oo0 bb2 b3
  have H3 := Lib.hid h1; have H4 := Lib.hid h2
  clear h1 h2
  go_wp2_with fail
  refine (markRoom_any _ _ _ _ _ L 1 _ p1 (by omega) (by omega) (by omega)).mono ?_
  rintro e w4 ⟨rfl, p4, t4⟩
  have s4 := t4.size
  have h1 : w4.heap[w1.heap.size]? = some (.cells #[.int .i64 0, .int .i64 0, .slice A0 n0 c0] 30 (0, 0)) := (t4.block _ (by omega) (.inl (by omega))).trans H3.out
  have h2 : w4.heap[w2.heap.size]? = some (.cells #[.int .i64 0, .int .i64 0, .slice A1 n1 c1] 30 (0, 0)) := (t4.block _ (by omega) (.inr (by omega))).trans H4.out
  clear k0 k1 k2 H3 H4
  obtain ⟨⟨k0, k1, k2⟩, -, -, -, -⟩ := blk3 h2
  have q0 := p0.turned t4 (by omega) (.inl (by omega))
  have bb4 := below_turned bb3 t4 (by omega) (by omega)
  have H3 := Lib.hid h1; have H4 := Lib.hid h2
  clear h1 h2 t4 p1 p0 bb3
  have r4 := p4.rd
  go_wp2_with fail
  refine (heldRoom_up _ _ _ L.length 1 _ r4 (by omega) (by omega)).mono ?_
  rintro e w5 ⟨rfl, b5⟩
  have s5 := b5.size
  have r5 := r4.below b5
  have q5 := q0.below b5 (by omega)
  have bb5 := bb4.trans (b5.mono (by omega))
  have h1 := (b5.block _ (by omega)).trans H3.out
  have h2 := (b5.block _ (by omega)).trans H4.out
  clear k0 k1 k2 H3 H4 r4 q0 bb4 b5 p4
  have H3 := Lib.hid h1; have H4 := Lib.hid h2
  clear h1 h2
  go_wp2_with fail
  refine (H2.out _).mono ?_
  rintro e w6 ⟨v2, rfl, o2, b6⟩
  obtain ⟨A2, n2, c2, rfl⟩ := own_form o2
  have s6 := b6.size
  have r6 := r5.below b6
  have q6 := q5.below b6 (by omega)
  have bb6 := bb5.trans (b6.mono (by omega))
  have h1 := (b6.block _ (by omega)).trans H3.out
  have h2 := (b6.block _ (by omega)).trans H4.out
  obtain ⟨⟨k0, k1, k2⟩, -, -, -, kz6⟩ := blk3 h1
  have H3 := Lib.hid h1; have H4 := Lib.hid h2
  clear h1 h2 r5 q5 bb5 b6
  have ba := (Below.refl w6.heap.size w6).alloc (Nat.le_refl _) (.cells #[.int .i64 0, .int .i64 0, .slice A2 n2 c2] 30)
  have BA := Lib.hid ba; clear ba
  go_wp2_with fail
  refine (eqRoom_true _ _ _ _ L _ (o2.rd.below BA.out) (q6.rd.below BA.out)).mono ?_
  rintro e w7 ⟨rfl, b7⟩
  have s7 := b7.size
  rw [World.size_alloc] at b7 s7
  have r7 := (r6.below BA.out).below (by rw [World.size_alloc]; exact b7)
  have h2 := ((b7.block _ (by omega)).trans (Below.heap_alloc _ _ _ (by omega))).trans H4.out
  clear k0 k1 k2 H3 H4
  obtain ⟨⟨k0, k1, k2⟩, -, -, -, -⟩ := blk3 h2
  have bb7 := (bb6.trans (BA.out.mono (by omega))).trans (b7.mono (by omega))
  clear h2 r6 bb6 b7 BA
  go_wp2_with fail
  refine (heldRoom_up _ _ _ L.length 1 _ r7 (by omega) (by omega)).mono ?_
  rintro e w8 ⟨rfl, b8⟩
  have bb8 := bb7.trans (b8.mono (by omega))
  clear b8 bb7
  go_wp2
  go_ret
  exact ⟨rfl, bb8⟩
end Go.Proofs.Ytnpfjpihcdlmhaa
