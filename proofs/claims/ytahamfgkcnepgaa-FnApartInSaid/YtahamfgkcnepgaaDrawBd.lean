/- Drawn boards. -/
import Derived.Test.YtahamfgkcnepgaaDrawVis
import Derived.Test.YtahamfgkcnepgaaFields
import Derived.Deep.RegionHeld3
import Derived.Deep.RegionWith
namespace Go.Proofs.Ytahamfgkcnepgaa
open Go.RowKit

theorem rdr_alloc {w : World} {g B : Nat} (h : Rdr w g B) (o : Obj) : Rdr (w.alloc o) g B := rdr_keep h fun k hk => Below.heap_alloc _ _ _ (by have := rdr_lt h; omega)
theorem turned_drew {lo hi : Nat} {a b : World} (h : Turned lo hi a b) : Turned lo hi a b.drew := ⟨h.os, h.tape, h.output, h.size, h.block⟩
theorem rdr_drew {w : World} {g B : Nat} (h : Rdr w g B) : Rdr w.drew g B := h

/-- A drawn answer; the world is as it was but for the reader's place. -/
theorem pick_form (g B : Nat) (m : Int) (w : World) (h : Rdr w g B) (hB : B ≤ 1099511627776) :
    Calls Try.prog 77 #[.pointer (some ⟨g, 0, none⟩), .int .i64 m] w fun e w' => ∃ x : Int, e = .returned (.int .i64 x) ∧ PickR m x ∧ Rdr w' g (B + 1) ∧ Turned g (g + 1) w w' ∧ w'.heap.size = w.heap.size ∧
      (∀ (b i : Nat) (v : Value), b ≠ g → w.cell? ⟨b, i, none⟩ = some v → w'.cell? ⟨b, i, none⟩ = some v) :=
  (pick_any g B m w h hB).mono fun e w' ⟨x, h1, h2, h3, h4, h5⟩ => ⟨x, h1, h2, h3, h4, h5, fun b i v hb hc => (World.cell?_of_block (h4.block b (block_lt_of_cell hc) (by omega))).trans hc⟩

def pickOf (l : List Int) (x : Nat) : Int := l.getD x 0

theorem lit3_0 {w : World} {x y z : Int} {X : Nat} (hX : X < 3) : (w.alloc (.cells #[.int .i64 x, .int .i64 y, .int .i64 z] 3)).cell? ⟨w.heap.size, X, none⟩ = some (.int .i64 (pickOf [x, y, z] X)) := by
  rw [World.cell?_alloc_at _ _ _ _ rfl]
  rcases X with _ | _ | _ | X
  · rfl
  · rfl
  · rfl
  · omega
theorem lit3_1 {w : World} {o : Obj} {x y z : Int} {X : Nat} (hX : X < 3) : ((w.alloc o).alloc (.cells #[.int .i64 x, .int .i64 y, .int .i64 z] 3)).cell? ⟨w.heap.size + 1, X, none⟩ = some (.int .i64 (pickOf [x, y, z] X)) := by
  have := @lit3_0 (w.alloc o) x y z X hX
  rw [World.size_alloc] at this
  exact this
theorem lit3_u {w : World} {o : Obj} {x y z : Int} {X : Nat} (hX : X < 3) : ((w.alloc (.cells #[.int .i64 x, .int .i64 y, .int .i64 z] 3)).alloc o).cell? ⟨w.heap.size, X, none⟩ = some (.int .i64 (pickOf [x, y, z] X)) :=
  (World.cell?_alloc_lt _ _ ⟨w.heap.size, X, none⟩ (by simp)).trans (lit3_0 hX)
theorem cell_u {w : World} {o : Obj} {b i : Nat} {v : Value} (h : w.cell? ⟨b, i, none⟩ = some v) : (w.alloc o).cell? ⟨b, i, none⟩ = some v := (World.cell?_alloc_lt _ _ ⟨b, i, none⟩ (block_lt_of_cell h)).trans h
theorem lit3_get {x y z : Int} {X : Nat} (h : X < [Value.int .i64 x, .int .i64 y, .int .i64 z].length) : [Value.int .i64 x, .int .i64 y, .int .i64 z][X]'h = .int .i64 (pickOf [x, y, z] X) := by
  rcases X with _ | _ | _ | X
  · rfl
  · rfl
  · rfl
  · simp at h; omega
theorem pickOf_bd {x y z : Int} {X : Nat} (hx : 0 ≤ x ∧ x ≤ 7) (hy : 0 ≤ y ∧ y ≤ 7) (hz : 0 ≤ z ∧ z ≤ 7) (hX : X < 3) : 0 ≤ pickOf [x, y, z] X ∧ pickOf [x, y, z] X ≤ 7 := by
  rcases X with _ | _ | _ | X
  · exact hx
  · exact hy
  · exact hz
  · omega

set_option maxHeartbeats 16000000 in
set_option maxRecDepth 100000 in
theorem board_any (g B : Nat) (n : Int) (w : World) (h : Rdr w g B) (hB : B ≤ 1000000) :
    Calls Try.prog 80 #[.pointer (some ⟨g, 0, none⟩), .int .i64 n] w fun e w' => (∃ r c l, e = .returned (.tuple #[.int .i64 r, .int .i64 c, .int .i64 l]) ∧ (0 ≤ r ∧ r ≤ 7) ∧ (0 ≤ c ∧ c ≤ 6) ∧ (0 ≤ l ∧ l ≤ 7)) ∧ Rdr w' g (B + 4) ∧ Turned g (g + 1) w w' := by
  have hg := rdr_lt h
  go_enter Try.func80, Try.ntmps80
  go_wp2_with fail
  refine (odd_any g B n _ h (by omega)).mono ?_
  rintro e w1 ⟨b, rfl, -, r1, t1, s1⟩
  rcases b with _ | _
  · go_wp2_with fail
    refine (pick_any g (B + 1) 6 _ r1 (by omega)).mono ?_
    rintro e w2 ⟨x1, rfl, ⟨p1, q1, -⟩, r2, t2, z2⟩
    have q1 := q1 (by omega)
    have t2 := turned_trans t1 t2
    go_wp2_with fail
    refine (pick_any g (B + 2) 6 _ r2 (by omega)).mono ?_
    rintro e w3 ⟨x2, rfl, ⟨p2, q2, -⟩, r3, t3, z3⟩
    have q2 := q2 (by omega)
    have t3 := turned_trans t2 t3
    go_wp2_with fail
    refine (pick_any g (B + 3) 4 _ r3 (by omega)).mono ?_
    rintro e w4 ⟨x3, rfl, ⟨p3, q3, -⟩, r4, t4, z4⟩
    have q3 := q3 (by omega)
    have t4 := turned_trans t3 t4
    clear h r1 r2 r3 t1 t2 t3 z2 z3 z4 s1
    go_wp2
    go_ret3
    exact ⟨⟨_, _, _, rfl, by omega, by omega, by omega⟩, r4, t4⟩
  · have S1 := Lib.hid s1
    clear s1 h
    have hg1 := rdr_lt r1
    go_wp2_with fail
    go_region_with (first | (go_at_call 77; refine (pick_form g (B + 2) 3 _ (by first | exact r7 | exact rdr_alloc r7 _ | exact rdr_alloc (rdr_alloc r7 _) _) (by omega)).mono ?_; rintro e w8 ⟨x8, rfl, ⟨p8, q8, -⟩, r8, t8, z8, c8⟩; have Z8 := Lib.hid z8; clear z8; have g8 := rdr_lt r8; have u8 : Turned g (g + 1) w w8 := (by first | exact turned_trans u7 t8 | exact turned_trans (turned_alloc u7 _) t8 | exact turned_trans (turned_alloc (turned_alloc u7 _) _) t8); clear t8; obtain ⟨X8, rfl⟩ := Int.eq_ofNat_of_zero_le p8; have q8 : X8 < 3 := (by have := q8 (by omega); omega); (try have a2 : ∀ X, X < 3 → w8.cell? ⟨w1.heap.size, X, none⟩ = some (.int .i64 (pickOf [0, 7, 3] X)) := fun X hX => c8 _ _ _ (by omega) (by first | exact a0 X hX | exact cell_u (a0 X hX) | exact cell_u (cell_u (a0 X hX)))); (try have a3 : ∀ X, X < 3 → w8.cell? ⟨w1.heap.size + 1, X, none⟩ = some (.int .i64 (pickOf [0, 7, 3] X)) := fun X hX => c8 _ _ _ (by omega) (by first | exact a1 X hX | exact cell_u (a1 X hX) | exact cell_u (cell_u (a1 X hX)))); (try have b2 : ∀ X, X < 3 → w8.cell? ⟨w1.heap.size, X, none⟩ = some (.int .i64 (pickOf [0, 2, 7] X)) := fun X hX => c8 _ _ _ (by omega) (by first | exact b0 X hX | exact cell_u (b0 X hX) | exact cell_u (cell_u (b0 X hX)))); (try have b3 : ∀ X, X < 3 → w8.cell? ⟨w1.heap.size + 1, X, none⟩ = some (.int .i64 (pickOf [0, 2, 7] X)) := fun X hX => c8 _ _ _ (by omega) (by first | exact b1 X hX | exact cell_u (b1 X hX) | exact cell_u (cell_u (b1 X hX)))); (try have a4 : ∀ X, X < 3 → w8.cell? ⟨w7.heap.size, X, none⟩ = some (.int .i64 (pickOf [0, 7, 3] X)) := fun X hX => c8 _ _ _ (by omega) (by first | exact lit3_0 hX | exact lit3_u hX)); (try have a5 : ∀ X, X < 3 → w8.cell? ⟨w7.heap.size + 1, X, none⟩ = some (.int .i64 (pickOf [0, 7, 3] X)) := fun X hX => c8 _ _ _ (by omega) (by first | exact lit3_1 hX)); (try have b4 : ∀ X, X < 3 → w8.cell? ⟨w7.heap.size, X, none⟩ = some (.int .i64 (pickOf [0, 2, 7] X)) := fun X hX => c8 _ _ _ (by omega) (by first | exact lit3_0 hX | exact lit3_u hX)); (try have b5 : ∀ X, X < 3 → w8.cell? ⟨w7.heap.size + 1, X, none⟩ = some (.int .i64 (pickOf [0, 2, 7] X)) := fun X hX => c8 _ _ _ (by omega) (by first | exact lit3_1 hX)); (try have d2 := a2 X7 q7); (try have d3 := a3 X7 q7); (try have d4 := a4 X7 q7); (try have d5 := a5 X7 q7); (try have f2 := b2 X8 q8); (try have f3 := b3 X8 q8); (try have f4 := b4 X8 q8); (try have f5 := b5 X8 q8); have la8 := @lit3_get 0 2 7 X8; have la9 := @lit3_get 0 7 3 X7; (try have k2 := block_lt_of_cell d2); (try have k3 := block_lt_of_cell d3); (try have k4 := block_lt_of_cell d4); (try have k5 := block_lt_of_cell d5); (try have h2 := block_lt_of_cell f2); (try have h3 := block_lt_of_cell f3); (try have h4 := block_lt_of_cell f4); (try have h5 := block_lt_of_cell f5); (try dsimp only at k2); (try dsimp only at k3); (try dsimp only at k4); (try dsimp only at k5); (try dsimp only at h2); (try dsimp only at h3); (try dsimp only at h4); (try dsimp only at h5)) | (go_at_call 77; refine (pick_form g (B + 1) 3 _ (by first | exact r1 | exact rdr_alloc r1 _ | exact rdr_alloc (rdr_alloc r1 _) _) (by omega)).mono ?_; rintro e w7 ⟨x7, rfl, ⟨p7, q7, -⟩, r7, t7, z7, c7⟩; have Z7 := Lib.hid z7; clear z7; have g7 := rdr_lt r7; have u7 : Turned g (g + 1) w w7 := (by first | exact turned_trans (turned_drew t1) t7 | exact turned_trans (turned_drew (turned_alloc t1 _)) t7 | exact turned_trans (turned_drew (turned_alloc (turned_alloc t1 _) _)) t7); clear t7; obtain ⟨X7, rfl⟩ := Int.eq_ofNat_of_zero_le p7; have q7 : X7 < 3 := (by have := q7 (by omega); omega); (try have a0 : ∀ X, X < 3 → w7.cell? ⟨w1.heap.size, X, none⟩ = some (.int .i64 (pickOf [0, 7, 3] X)) := fun X hX => c7 _ _ _ (by omega) (by first | exact lit3_0 hX | exact lit3_u hX)); (try have a1 : ∀ X, X < 3 → w7.cell? ⟨w1.heap.size + 1, X, none⟩ = some (.int .i64 (pickOf [0, 7, 3] X)) := fun X hX => c7 _ _ _ (by omega) (by first | exact lit3_1 hX)); (try have b0 : ∀ X, X < 3 → w7.cell? ⟨w1.heap.size, X, none⟩ = some (.int .i64 (pickOf [0, 2, 7] X)) := fun X hX => c7 _ _ _ (by omega) (by first | exact lit3_0 hX | exact lit3_u hX)); (try have b1 : ∀ X, X < 3 → w7.cell? ⟨w1.heap.size + 1, X, none⟩ = some (.int .i64 (pickOf [0, 2, 7] X)) := fun X hX => c7 _ _ _ (by omega) (by first | exact lit3_1 hX)); (try have d0 := a0 X7 q7); (try have d1 := a1 X7 q7); have la7 := @lit3_get 0 7 3 X7; (try have k0 := block_lt_of_cell d0); (try have k1 := block_lt_of_cell d1); (try have m0 := block_lt_of_cell (b0 0 (by omega))); (try have m1 := block_lt_of_cell (b1 0 (by omega))); (try dsimp only at k0); (try dsimp only at k1); (try dsimp only at m0); (try dsimp only at m1)))
    all_goals go_wp2
    all_goals go_ret3
    all_goals (refine ⟨⟨_, _, _, rfl, ?_, ?_, ?_⟩, ?_, ?_⟩)
    all_goals first | exact pickOf_bd (by omega) (by omega) (by omega) q7 | exact pickOf_bd (by omega) (by omega) (by omega) q8 | exact ⟨by omega, by omega⟩ | exact rdr_more r8 (by omega) | exact rdr_more (rdr_alloc r8 _) (by omega) | exact rdr_more (rdr_alloc (rdr_alloc r8 _) _) (by omega) | exact u8 | exact turned_alloc u8 _ | exact turned_alloc (turned_alloc u8 _) _
end Go.Proofs.Ytahamfgkcnepgaa
