/- Rooms: new ones, compared ones, marked ones; whether a room is one. -/
import Derived.Test.YtnpfjpihcdlmhaaRange
import Derived.Test.YtnpfjpihcdlmhaaInts
namespace Go.Proofs.Ytnpfjpihcdlmhaa
open Go.RowKit

theorem rowBlk {w : World} {g : Nat} {cs : Array Value} {t : TypeId} (h : w.heap[g]? = some (.cells cs t (0, 0))) (i : Nat) : w.cell? ⟨g, i, none⟩ = cs[i]? := cell_of_row w g i cs t (0, 0) h

theorem blk3 {w : World} {g : Nat} {x y z : Value} {t : TypeId} (h : w.heap[g]? = some (.cells #[x, y, z] t (0, 0))) :
    (w.cell? ⟨g, 0, none⟩ = some x ∧ w.cell? ⟨g, 1, none⟩ = some y ∧ w.cell? ⟨g, 2, none⟩ = some z) ∧ w.frozen? ⟨g, 0, none⟩ = false ∧ w.frozen? ⟨g, 1, none⟩ = false ∧ w.frozen? ⟨g, 2, none⟩ = false ∧ g < w.heap.size :=
  ⟨⟨rowBlk h 0, rowBlk h 1, rowBlk h 2⟩, frozen_of_row w g 0 _ _ h, frozen_of_row w g 1 _ _ h, frozen_of_row w g 2 _ _ h, (Array.getElem?_eq_some_iff.1 h).1⟩

set_option maxRecDepth 100000 in
theorem eqRoom_true (a b : Int) (v1 v2 : Value) (zs : List Int) (w : World) (h1 : Rd w v1 zs) (h2 : Rd w v2 zs) :
    Calls Try.prog 29 #[.agg #[.int .i64 a, .int .i64 b, v1], .agg #[.int .i64 a, .int .i64 b, v2]] w fun e w' => e = .returned (.bool true) ∧ Below w.heap.size w w' := by
  have hb2 : Below w.heap.size w ((w.alloc (.cells #[.int .i64 a, .int .i64 b, v1] 30)).alloc (.cells #[.int .i64 a, .int .i64 b, v2] 30)) := ((Below.refl _ _).alloc (Nat.le_refl _) _).alloc (by simp) _
  have HB := Lib.hid hb2; clear hb2
  go_enter Try.func29, Try.ntmps29
  go_wp2_with fail
  refine (eqIntS_true _ _ zs _ (h1.below HB.out) (h2.below HB.out)).mono ?_
  rintro e w' ⟨rfl, n, rfl⟩
  go_wp2
  go_ret
  exact ⟨rfl, below_drewN HB.out n⟩

set_option maxRecDepth 100000 in
theorem sameRoom_true (a b : Int) (v1 v2 : Value) (zs : List Int) (w : World) (h1 : Rd w v1 zs) (h2 : Rd w v2 zs) :
    Calls Try.prog 47 #[.agg #[.int .i64 a, .int .i64 b, v1], .agg #[.int .i64 a, .int .i64 b, v2]] w fun e w' => e = .returned (.bool true) ∧ Below w.heap.size w w' := by
  have hb2 : Below w.heap.size w ((w.alloc (.cells #[.int .i64 a, .int .i64 b, v1] 30)).alloc (.cells #[.int .i64 a, .int .i64 b, v2] 30)) := ((Below.refl _ _).alloc (Nat.le_refl _) _).alloc (by simp) _
  have HB := Lib.hid hb2; clear hb2
  go_enter Try.func47, Try.ntmps47
  go_wp2_with fail
  refine (sameInts_true _ _ zs _ (h1.below HB.out) (h2.below HB.out)).mono ?_
  rintro e w' ⟨rfl, n, rfl⟩
  go_wp2
  go_ret
  exact ⟨rfl, below_drewN HB.out n⟩

set_option maxRecDepth 100000 in
theorem markRoom_any (lo hi : Nat) (a b : Int) (v : Value) (zs : List Int) (k0 : Int) (w : World) (h : Own w lo hi v zs) (hh : hi ≤ w.heap.size) (h0 : 0 ≤ k0) (hb : k0 + zs.length ≤ 4611686018427387904) :
    Calls Try.prog 30 #[.agg #[.int .i64 a, .int .i64 b, v], .int .i64 k0] w fun e w' => e = .returned (.int .i64 (k0 + zs.length)) ∧ Own w' lo hi v (upFrom k0 zs.length) ∧ Turned lo hi w w' := by
  have h1 : Own (w.alloc (.cells #[.int .i64 a, .int .i64 b, v] 30)) lo hi v zs := h.below ((Below.refl w.heap.size w).alloc (Nat.le_refl _) _) hh
  go_enter Try.func30, Try.ntmps30
  go_wp2_with fail
  refine (markIntS_any _ _ _ zs k0 _ h1 h0 hb).mono ?_
  rintro e w' ⟨rfl, o, t, s⟩
  have T : Hid (Turned lo hi w w') := ⟨t.os, t.tape, t.output, by rw [s]; simp, fun k hk hne => (t.block k (by simp; omega) hne).trans (Below.heap_alloc w _ k hk)⟩
  clear s
  go_wp2
  go_ret
  exact ⟨rfl, o, T.out⟩

set_option maxRecDepth 100000 in
theorem heldRoom_up (a b : Int) (v : Value) (n : Nat) (k0 : Int) (w : World) (h : Rd w v (upFrom k0 n)) (h0 : 0 ≤ k0) (hb : k0 + n ≤ 4611686018427387904) :
    Calls Try.prog 31 #[.agg #[.int .i64 a, .int .i64 b, v], .int .i64 k0] w fun e w' => e = .returned (.int .i64 (k0 + n)) ∧ Below w.heap.size w w' := by
  have hb1 : Below w.heap.size w (w.alloc (.cells #[.int .i64 a, .int .i64 b, v] 30)) := (Below.refl _ _).alloc (Nat.le_refl _) _
  have HB := Lib.hid hb1; clear hb1
  go_enter Try.func31, Try.ntmps31
  go_wp2_with fail
  refine (heldIntS_up _ n k0 _ (h.below HB.out) h0 hb).mono ?_
  rintro e w' ⟨rfl, rfl⟩
  go_wp2
  go_ret
  exact ⟨rfl, HB.out⟩

theorem own_form {w : World} {lo hi : Nat} {v : Value} {zs : List Int} (h : Own w lo hi v zs) : ∃ A n c, v = .slice A n c := by
  obtain ⟨a, c, e, _⟩ := h.rd
  exact ⟨_, _, _, e⟩

/-- The zeros of a new room. -/
def newDone (p : Int) : List Int := if 1 ≤ p ∧ p ≤ 5 then List.replicate p.toNat 0 else []

set_option maxRecDepth 100000 in
theorem specRoomNew_any (p : Int) (w : World) :
    Calls Try.prog 27 #[.int .i64 p] w fun e w' => ∃ v, e = .returned (.agg #[.int .i64 0, .int .i64 0, v]) ∧ Own w' w.heap.size w'.heap.size v (newDone p) ∧ Below w.heap.size w w' := by
  obtain ⟨i0, hi, hz0, hz1, hz2⟩ := info_parts infoInt
  go_enter Try.func27, Try.ntmps27
  go_wp2_with fail
  refine (l1In_any _ _ _ _).mono ?_
  rintro e w' ⟨rfl, rfl⟩
  rcases Bool.eq_false_or_eq_true (inB 1 5 p) with hb | hb
  · have hp := inB_in hb
    rw [hb]
    clear hb
    obtain ⟨hp1, hp2⟩ := hp
    obtain ⟨M, rfl⟩ := Int.eq_ofNat_of_zero_le (a := p) (by omega)
    have HN : Hid (newDone (M : Int) = List.replicate M 0) := by unfold Hid newDone; rw [if_pos (by omega)]; rfl
    go_wp2_with (at_make; refine wpList_make_full _ rfl _ _ 22 rfl (w.heap.size + 1) 3 i0 (.int .i64 0) 1 Try.underlying22 hi hz0 hz1 _ _ _ _ M rfl rfl rfl rfl ?c1 ?c2 ?c3 ?_)
    case c1 => rw [hz2]; omega
    case c2 => unfold maxLen; omega
    case c3 => simp
    intro w1 hown hgr
    have e0 : (madeCells #[Value.int .i64 0] M).toList = (List.replicate M (0 : Int)).map (Value.int .i64) := (toList_madeCells_one _ _).trans (by simp)
    rw [e0] at hown
    have hblk : w1.heap[w.heap.size]? = some (.cells #[.int .i64 0, .int .i64 0, .slice none 0 0] 30 (0, 0)) := (hgr.block _ (by simp) (by simp)).trans (heap_alloc_new _ _)
    have hb1 : Below w.heap.size w w1 := ((Below.refl _ _).alloc (Nat.le_refl _) _).grown hgr (by simp) (fun k hk => by cases hk)
    have c0 := rowBlk hblk 0
    have c1 := rowBlk hblk 1
    have c2 := rowBlk hblk 2
    have f0 := frozen_of_row w1 w.heap.size 0 _ _ hblk
    have f1 := frozen_of_row w1 w.heap.size 1 _ _ hblk
    have f2 := frozen_of_row w1 w.heap.size 2 _ _ hblk
    have HO : Hid (∀ W : World, (∀ k, w.heap.size + 1 ≤ k → W.heap[k]? = w1.heap[k]?) → W.heap.size = w1.heap.size → Own W w.heap.size W.heap.size (.slice (some ⟨w.heap.size + 1, 0, none⟩) M M) (List.replicate M 0)) := by
      intro W hW hs
      have o1 : Own w1 (w.heap.size + 1) w1.heap.size (.slice (some ⟨w.heap.size + 1, 0, none⟩) M M) (List.replicate M 0) := Own.new (by simpa using hown) (Nat.le_refl _)
      rw [hs]
      exact (o1.keep (fun g hg _ => hW g hg)).wide (by omega) (Nat.le_refl _)
    have HB := Lib.hid hb1
    simp only [List.getElem?_toArray, List.getElem?_cons_zero, List.getElem?_cons_succ] at c0 c1 c2
    clear e0 hz0 hz1 hz2 hi hgr hown hblk hb1
    go_wp2
    refine bodyPost_ret (v := .agg #[.int .i64 0, .int .i64 0, .slice (some ⟨w.heap.size + 1, 0, none⟩) M M]) (by simp [results, Try.results27, go_sem, c0, c1, c2]) rfl ⟨_, rfl, ?_, ?_⟩
    · rw [HN.out]
      refine HO.out _ (fun k hk => ?_) (by simp)
      repeat rw [heap_setCell_other _ _ _ _ (by show k ≠ w.heap.size; omega)]
    · exact ((HB.out.setCell (p := ⟨w.heap.size, 0, none⟩) (Nat.le_refl _) _).setCell (p := ⟨w.heap.size, 1, none⟩) (Nat.le_refl _) _).setCell (p := ⟨w.heap.size, 2, none⟩) (Nat.le_refl _) _
  · rw [hb]
    have HN : Hid (newDone p = []) := by have := inB_out hb; unfold Hid newDone; rw [if_neg this]
    clear hb
    go_wp2
    refine bodyPost_ret (v := .agg #[.int .i64 0, .int .i64 0, .slice none 0 0]) (by simp [results, Try.results27, go_sem]) rfl ⟨_, rfl, ?_, ?_⟩
    · rw [HN.out]; exact Own.new (World.ownsRow_nil _ _ _ _) (Nat.le_refl _)
    · exact (Below.refl _ _).alloc (Nat.le_refl _) _

set_option maxRecDepth 100000 in
theorem implRoomNew_any (p : Int) (w : World) :
    Calls Try.prog 28 #[.int .i64 p] w fun e w' => ∃ v, e = .returned (.agg #[.int .i64 0, .int .i64 0, v]) ∧ Own w' w.heap.size w'.heap.size v (newDone p) ∧ Below w.heap.size w w' := by
  obtain ⟨i0, hi, hz0, hz1, hz2⟩ := info_parts infoInt
  go_enter Try.func28, Try.ntmps28
  go_wp2_with fail
  refine (in_any _ _ _ _).mono ?_
  rintro e w' ⟨rfl, rfl⟩
  rcases Bool.eq_false_or_eq_true (inB 1 5 p) with hb | hb
  · have hp := inB_in hb
    rw [hb]
    clear hb
    obtain ⟨hp1, hp2⟩ := hp
    obtain ⟨M, rfl⟩ := Int.eq_ofNat_of_zero_le (a := p) (by omega)
    have HN : Hid (newDone (M : Int) = List.replicate M 0) := by unfold Hid newDone; rw [if_pos (by omega)]; rfl
    go_wp2_with (at_make; refine wpList_make_full _ rfl _ _ 22 rfl (w.heap.size + 1) 3 i0 (.int .i64 0) 1 Try.underlying22 hi hz0 hz1 _ _ _ _ M rfl rfl rfl rfl ?c1 ?c2 ?c3 ?_)
    case c1 => rw [hz2]; omega
    case c2 => unfold maxLen; omega
    case c3 => simp
    intro w1 hown hgr
    have e0 : (madeCells #[Value.int .i64 0] M).toList = (List.replicate M (0 : Int)).map (Value.int .i64) := (toList_madeCells_one _ _).trans (by simp)
    rw [e0] at hown
    have hblk : w1.heap[w.heap.size]? = some (.cells #[.int .i64 0, .int .i64 0, .slice none 0 0] 30 (0, 0)) := (hgr.block _ (by simp) (by simp)).trans (heap_alloc_new _ _)
    have hb1 : Below w.heap.size w w1 := ((Below.refl _ _).alloc (Nat.le_refl _) _).grown hgr (by simp) (fun k hk => by cases hk)
    have c0 := rowBlk hblk 0
    have c1 := rowBlk hblk 1
    have c2 := rowBlk hblk 2
    have f0 := frozen_of_row w1 w.heap.size 0 _ _ hblk
    have f1 := frozen_of_row w1 w.heap.size 1 _ _ hblk
    have f2 := frozen_of_row w1 w.heap.size 2 _ _ hblk
    have HO : Hid (∀ W : World, (∀ k, w.heap.size + 1 ≤ k → W.heap[k]? = w1.heap[k]?) → W.heap.size = w1.heap.size → Own W w.heap.size W.heap.size (.slice (some ⟨w.heap.size + 1, 0, none⟩) M M) (List.replicate M 0)) := by
      intro W hW hs
      have o1 : Own w1 (w.heap.size + 1) w1.heap.size (.slice (some ⟨w.heap.size + 1, 0, none⟩) M M) (List.replicate M 0) := Own.new (by simpa using hown) (Nat.le_refl _)
      rw [hs]
      exact (o1.keep (fun g hg _ => hW g hg)).wide (by omega) (Nat.le_refl _)
    have HB := Lib.hid hb1
    simp only [List.getElem?_toArray, List.getElem?_cons_zero, List.getElem?_cons_succ] at c0 c1 c2
    clear e0 hz0 hz1 hz2 hi hgr hown hblk hb1
    go_wp2
    refine bodyPost_ret (v := .agg #[.int .i64 0, .int .i64 0, .slice (some ⟨w.heap.size + 1, 0, none⟩) M M]) (by simp [results, Try.results28, go_sem, c0, c1, c2]) rfl ⟨_, rfl, ?_, ?_⟩
    · rw [HN.out]
      refine HO.out _ (fun k hk => ?_) (by simp)
      repeat rw [heap_setCell_other _ _ _ _ (by show k ≠ w.heap.size; omega)]
    · exact ((HB.out.setCell (p := ⟨w.heap.size, 0, none⟩) (Nat.le_refl _) _).setCell (p := ⟨w.heap.size, 1, none⟩) (Nat.le_refl _) _).setCell (p := ⟨w.heap.size, 2, none⟩) (Nat.le_refl _) _
  · rw [hb]
    have HN : Hid (newDone p = []) := by have := inB_out hb; unfold Hid newDone; rw [if_neg this]
    clear hb
    go_wp2
    refine bodyPost_ret (v := .agg #[.int .i64 0, .int .i64 0, .slice none 0 0]) (by simp [results, Try.results28, go_sem]) rfl ⟨_, rfl, ?_, ?_⟩
    · rw [HN.out]; exact Own.new (World.ownsRow_nil _ _ _ _) (Nat.le_refl _)
    · exact (Below.refl _ _).alloc (Nat.le_refl _) _

end Go.Proofs.Ytnpfjpihcdlmhaa
