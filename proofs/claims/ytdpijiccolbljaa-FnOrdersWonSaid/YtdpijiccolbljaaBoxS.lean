/- BoxesOk of the reference: the walk. -/
import Derived.Test.YtdpijiccolbljaaOpen
namespace Go.Proofs.Ytdpijiccolbljaa
open Go.RowKit

def boolArr (t : List Bool) : Array Value := (t.map Value.bool).toArray

/-- The block g holds the bools t. -/
def BoolBlk (w : World) (g : Nat) (ty : TypeId) (t : List Bool) : Prop := w.heap[g]? = some (.cells (boolArr t) ty (0, 0))

theorem BoolBlk.cell {w : World} {g : Nat} {ty : TypeId} {t : List Bool} (h : BoolBlk w g ty t) (i : Nat) (hi : i < t.length) : w.cell? ⟨g, i, none⟩ = some (.bool (t.getD i false)) := by
  rw [cell_of_row w g i _ _ _ h]; simp [boolArr, List.getD, List.getElem?_eq_getElem hi]
theorem BoolBlk.frozen {w : World} {g : Nat} {ty : TypeId} {t : List Bool} (h : BoolBlk w g ty t) (i : Nat) : w.frozen? ⟨g, i, none⟩ = false := frozen_of_row w g i _ _ h
theorem BoolBlk.set {w : World} {g : Nat} {ty : TypeId} {t : List Bool} (h : BoolBlk w g ty t) (i : Nat) (b : Bool) : BoolBlk (w.setCell ⟨g, i, none⟩ (.bool b)) g ty (t.set i b) ∧ Turned g (g + 1) w (w.setCell ⟨g, i, none⟩ (.bool b)) := by
  refine ⟨?_, ⟨rfl, rfl, rfl, by simp, fun k hk hne => heap_setCell_other w ⟨g, i, none⟩ k _ (by show k ≠ g; omega)⟩⟩
  unfold BoolBlk
  rw [heap_setCell_same w g i _ _ _ h]
  simp [boolArr, List.map_set]
theorem BoolBlk.lt {w : World} {g : Nat} {ty : TypeId} {t : List Bool} (h : BoolBlk w g ty t) : g < w.heap.size := (Array.getElem?_eq_some_iff.1 h).1
theorem BoolBlk.below {w w' : World} {g B : Nat} {ty : TypeId} {t : List Bool} (h : BoolBlk w g ty t) (hb : Below B w w') (hg : g < B) : BoolBlk w' g ty t := (hb.block g hg).trans h

theorem infoBool : (Try.prog.info? 4).map (fun i => (i.zero, i.size, i.bytes)) = some (some (.bool false), 1, 1) := by kernel_rfl

/-- No mark. -/
def S0 : List Bool := List.replicate 7 false

/-- The marks of the first k numbers. -/
def MarksOf (zs : List Int) (k : Nat) (t : List Bool) : Prop := t.length = 7 ∧ ∀ j : Nat, j < 7 → (t.getD j false = true ↔ (j : Int) ∈ zs.take k)
/-- The first k numbers are below the length, and no two are the same. -/
def FirstOk (zs : List Int) (k : Nat) : Prop := (zs.take k).Nodup ∧ (∀ z ∈ zs.take k, 0 ≤ z ∧ z < zs.length) ∧ (1 ≤ k → zs.length ≤ 7)

theorem s0_at (j : Nat) (hj : j < 7) : S0.getD j false = false := by
  have : ∀ i : Fin 7, S0.getD i.val false = false := by decide
  exact this ⟨j, hj⟩
theorem marks_start (zs : List Int) : MarksOf zs 0 S0 := ⟨rfl, fun j hj => by rw [s0_at j hj]; simp⟩
theorem first_start (zs : List Int) : FirstOk zs 0 := ⟨by simp, by simp, by omega⟩
theorem marks_next {zs : List Int} {k j : Nat} {t : List Bool} (h : MarksOf zs k t) (hk : k < zs.length) (hj : (j : Int) = zs.getD k 0) (hj7 : j < 7) : MarksOf zs (k + 1) (t.set j true) := by
  obtain ⟨h1, h2⟩ := h
  refine ⟨by simpa using h1, fun i hi => ?_⟩
  rw [take_snoc zs k hk, List.mem_append, List.mem_singleton, ← hj, ← h2 i hi]
  by_cases e : i = j
  · subst e
    simp [List.getD, h1, hj7]
  · have : ¬ ((i : Int) = j) := by omega
    simp only [this, or_false, List.getD, List.getElem?_set, if_neg (fun h : j = i => e h.symm)]
theorem first_next {zs : List Int} {k j : Nat} {t : List Bool} (h : FirstOk zs k) (hm : MarksOf zs k t) (hk : k < zs.length) (hj : (j : Int) = zs.getD k 0) (hn : zs.length ≤ 7) (hjn : j < zs.length) (ht : t.getD j false = false) : FirstOk zs (k + 1) := by
  obtain ⟨h1, h2, h3⟩ := h
  have hno : (j : Int) ∉ zs.take k := fun hc => by
    rw [← hm.2 j (by omega), ht] at hc; cases hc
  unfold FirstOk
  rw [take_snoc zs k hk, ← hj]
  refine ⟨?_, fun z hz => ?_, fun _ => hn⟩
  · rw [List.nodup_append]
    refine ⟨h1, by simp, fun a ha b hb => ?_⟩
    rw [List.mem_singleton] at hb
    subst hb
    intro e; exact hno (e ▸ ha)
  · rcases List.mem_append.1 hz with hz | hz
    · exact h2 z hz
    · rw [List.mem_singleton] at hz; subst hz; omega
theorem mem_getD {zs : List Int} {k : Nat} (hk : k < zs.length) : zs.getD k 0 ∈ zs := by simp [List.getD, List.getElem?_eq_getElem hk]
theorem boxB_range {zs : List Int} {z : Int} (hz : z ∈ zs) (h : inB 0 ((zs.length : Int) - 1) z = false) : boxB zs = false := by
  have h1 := inB_out h
  rw [Bool.eq_false_iff]
  intro hb
  have := (range_sub (boxB_out hb).2.2).2 z hz
  omega
theorem boxB_twice {zs : List Int} {k j : Nat} {t : List Bool} (hm : MarksOf zs k t) (hk : k < zs.length) (hj : (j : Int) = zs.getD k 0) (hj7 : j < 7) (ht : t.getD j false = true) : boxB zs = false := by
  rw [Bool.eq_false_iff]
  intro hb
  have hd := (range_sub (boxB_out hb).2.2).1
  have h1 := (hm.2 j hj7).1 ht
  have h2 : (zs.take (k + 1)).Nodup := List.Sublist.nodup (List.take_sublist _ _) hd
  rw [take_snoc zs k hk, ← hj, List.nodup_append] at h2
  exact h2.2.2 _ h1 _ (by simp) rfl
theorem boxB_end {zs : List Int} (h : FirstOk zs zs.length) (h1 : 1 ≤ zs.length) : boxB zs = true := by
  obtain ⟨a, b, c⟩ := h
  rw [List.take_length] at a b
  exact boxB_of h1 (c h1) a b
theorem made7 : madeCells #[Value.bool false] 7 = boolArr S0 := by kernel_rfl

set_option maxHeartbeats 1600000 in
set_option maxRecDepth 100000 in
theorem specBoxesOk_any (v : Value) (zs : List Int) (w : World) (h : Rd w v zs) :
    Calls Try.prog 17 #[v] w fun e w' => e = .returned (.bool (boxB zs)) ∧ Below w.heap.size w w' := by
  obtain ⟨i0, hi, hz0, hz1, hz2⟩ := info_parts infoBool
  have hmk : ∀ W : World, (Instr.makeSlice 46 (.int .i64 7) (.int .i64 7)).run Try.prog W = .ok (.slice (some ⟨W.heap.size, 0, none⟩) 7 7) (W.alloc (.cells (boolArr S0) 4)) := fun W => by
    have hr := run_make (P := Try.prog) W 46 4 i0 (.bool false) Try.underlying46 hi hz0 .i64 .i64 7 7 (by omega) (by omega) (by rw [hz2]; omega) (by omega)
    rw [← made7]
    simpa [hz1, Value.cells] using hr
  clear hi hz0 hz1 hz2
  obtain ⟨a1, c1, rfl, l1, m1, r1⟩ := h
  obtain ⟨W, hW⟩ : ∃ W : World, W = w.alloc (.cells (boolArr S0) 4) := ⟨_, rfl⟩
  have hbW : Below w.heap.size w W := by rw [hW]; exact (Below.refl _ _).alloc (Nat.le_refl _) _
  have hsW : W.heap.size = w.heap.size + 1 := by rw [hW]; simp
  have hbl : BoolBlk W w.heap.size 4 S0 := by unfold BoolBlk; rw [hW]; exact heap_alloc_new _ _
  have HW := Lib.hid hW; have HB := Lib.hid hbW; have HBL := Lib.hid hbl
  have hs1 : w.heap.size < W.heap.size := by omega
  clear hW hbW hbl
  go_enter Try.func17, Try.ntmps17
  go_wp2_with fail
  rw [← HW.out]
  go_loopw [4] (fun i wr => ∃ (k : Nat) (t : List Bool), k ≤ zs.length ∧ i = .int .i64 k ∧ Hid (MarksOf zs k t) ∧ Hid (FirstOk zs k) ∧ BoolBlk wr w.heap.size 4 t ∧ Below w.heap.size w wr ∧ w.heap.size < wr.heap.size) (fun i _ => zs.length - (intOf i).toNat)
  case atStart => exact ⟨0, _, Nat.zero_le _, rfl, marks_start zs, first_start zs, HBL.out, HB.out, hs1⟩
  case round =>
    obtain ⟨k, t, hk, rfl, HM, HF, hbl, hb, hs⟩ := hrel
    by_cases hlt : k < zs.length
    · obtain ⟨g1, o1, z, rfl, hg1, x1, HZ⟩ := rd_at r1 k hlt
      have x2 := (hb.cell (p := ⟨g1, o1 + k, none⟩) hg1).trans x1
      have HBE := Lib.hid hb
      have HBK := Lib.hid hbl
      clear r1 x1 hb hbl
      go_wp2_with fail
      refine (l1In_any _ _ _ _).mono ?_
      rintro e w' ⟨rfl, rfl⟩
      rcases Bool.eq_false_or_eq_true (inB 0 ((zs.length : Int) - 1) z) with hb1 | hb1
      rotate_left
      · rw [hb1]
        have HQ := Lib.hid (boxB_range (mem_getD hlt) (by rw [← HZ.out]; exact hb1))
        clear hb1
        go_wp2
        go_ret
        exact ⟨ret_bool HQ.out.symm, HBE.out⟩
      rw [hb1]
      have hz := inB_in hb1
      clear hb1
      go_wp2_with fail
      refine (l1In_any _ _ _ _).mono ?_
      rintro e w' ⟨rfl, rfl⟩
      rcases Bool.eq_false_or_eq_true (inB 1 7 (zs.length : Int)) with hb1 | hb1
      rotate_left
      · rw [hb1]
        have HQ := Lib.hid (boxB_len hb1)
        clear hb1
        go_wp2
        go_ret
        exact ⟨ret_bool HQ.out.symm, HBE.out⟩
      rw [hb1]
      have hn := inB_in hb1
      clear hb1
      obtain ⟨j, rfl⟩ := Int.eq_ofNat_of_zero_le hz.1
      have hj7 : j < 7 := by omega
      have hcell := HBK.out.cell j (by rw [HM.out.1]; exact hj7)
      have hfroz := HBK.out.frozen j
      have hset := Lib.hid (HBK.out.set j true)
      obtain ⟨bb, hbb⟩ : ∃ b, b = t.getD j false := ⟨_, rfl⟩
      rw [← hbb] at hcell
      have HBB := Lib.hid hbb
      clear hbb
      rcases bb with _ | _
      · have HMN := Lib.hid (marks_next HM.out hlt HZ.out hj7)
        have HFN := Lib.hid (first_next HF.out HM.out hlt HZ.out (by omega) (by omega) HBB.out.symm)
        have x3 : (w'.setCell ⟨w.heap.size, j, none⟩ (.bool true)).cell? ⟨g1, o1 + k, none⟩ = some (.int .i64 (j : Int)) := (World.cell?_setCell_other w' ⟨w.heap.size, j, none⟩ _ _ (by intro e; injection e; omega)).trans x2
        go_wp2
        go_roundw
        case rel => exact ⟨k + 1, _, by omega, by go_num, HMN, HFN, hset.out.1, below_turned HBE.out hset.out.2 (Nat.le_refl _) (Nat.le_of_lt hs), by simpa using hs⟩
        case measure => simp [intOf]; omega
      · have HQ := Lib.hid (boxB_twice HM.out hlt HZ.out hj7 HBB.out.symm)
        go_wp2
        go_ret
        exact ⟨ret_bool HQ.out.symm, HBE.out⟩
    · have hk' : k = zs.length := by omega
      subst hk'
      by_cases h0 : 0 < zs.length
      · have HQ := Lib.hid (boxB_end HF.out h0)
        go_wp2
        go_ret
        exact ⟨ret_bool (by rw [HQ.out]), hb⟩
      · have HQ : Hid (boxB zs = false) := by
          unfold Hid
          rw [Bool.eq_false_iff]
          intro hb
          have := boxB_out hb
          omega
        go_wp2
        go_ret
        exact ⟨ret_bool (by rw [HQ.out]), hb⟩
end Go.Proofs.Ytdpijiccolbljaa
