/- Tables: rows of rows of numbers. -/
import Derived.Test.YtcgpfdknadijlaaCoO
import Derived.Test.YtcgpfdknadijlaaCoX
namespace Go.Proofs.Ytcgpfdknadijlaa
open Go.RowKit

def slotsT (rb : Nat → Nat) (k m : Nat) : List Value := (List.range k).map fun i => Value.slice (some ⟨rb i, 0, none⟩) m m
def setR (rb : Nat → Nat) (k x : Nat) : Nat → Nat := fun i => if i = k then x else rb i
theorem setR_same (rb : Nat → Nat) (k x : Nat) : setR rb k x k = x := by simp [setR]
theorem setR_other {rb : Nat → Nat} {k x i : Nat} (h : i ≠ k) : setR rb k x i = rb i := by simp [setR, h]
theorem slotsT_snoc (rb : Nat → Nat) (k m x : Nat) : slotsT (setR rb k x) (k + 1) m = slotsT rb k m ++ [.slice (some ⟨x, 0, none⟩) m m] := by
  unfold slotsT
  rw [List.range_succ, List.map_append, List.map_cons, List.map_nil, setR_same]
  congr 1
  refine List.map_congr_left fun i hi => ?_
  rw [setR_other (by have := List.mem_range.1 hi; omega)]

/-- A table that grows: k rows of m zeros each. -/
structure Tab (w : World) (lo : Nat) (v : Value) (k m : Nat) (rb : Nat → Nat) : Prop where
  own : w.ownsRow lo 23 1 v k (slotsT rb k m)
  row : ∀ i, i < k → lo ≤ rb i ∧ w.heap[rb i]? = some (.cells (madeCells #[.int .i64 0] m) 3)
  inj : ∀ i j, i < k → j < k → rb i = rb j → i = j
  out : ∀ i, i < k → v.ownBlock ≠ some (rb i)
/-- Two tables lie apart. -/
def Apt (v : Value) (rb : Nat → Nat) (k : Nat) (v' : Value) (rb' : Nat → Nat) (k' : Nat) : Prop :=
  (∀ b, v.ownBlock = some b → v'.ownBlock ≠ some b) ∧ (∀ i, i < k → v'.ownBlock ≠ some (rb i)) ∧ (∀ i, i < k' → v.ownBlock ≠ some (rb' i)) ∧ ∀ i j, i < k → j < k' → rb i ≠ rb' j
theorem Apt.symm {v v' : Value} {rb rb' : Nat → Nat} {k k' : Nat} (h : Apt v rb k v' rb' k') : Apt v' rb' k' v rb k :=
  ⟨fun b hb hv => h.1 b hv hb, h.2.2.1, h.2.1, fun i j hi hj e => h.2.2.2 j i hj hi e.symm⟩
theorem Tab.lt {w : World} {lo k m : Nat} {v : Value} {rb : Nat → Nat} (h : Tab w lo v k m rb) {i : Nat} (hi : i < k) : rb i < w.heap.size := (Array.getElem?_eq_some_iff.1 (h.row i hi).2).1
theorem heap_two {w : World} {o o' : Obj} {b : Nat} (h : b < w.heap.size) : ((w.alloc o).alloc o').heap[b]? = w.heap[b]? :=
  (Below.heap_alloc (w.alloc o) o' b (by simp; omega)).trans (Below.heap_alloc w o b h)
theorem Tab.push {w w' : World} {lo k m : Nat} {v v' : Value} {rb : Nat → Nat} (h : Tab w lo v k m rb) (hlo : lo ≤ w.heap.size) {o : Obj}
    (hown : w'.ownsRow lo 23 1 v' (k + 1) (slotsT rb k m ++ [.slice (some ⟨w.heap.size, 0, none⟩) m m]))
    (hg : ((w.alloc (.cells (madeCells #[.int .i64 0] m) 3)).alloc o).grownBy w' v.ownBlock)
    (hat : v'.ownBlock = v.ownBlock ∨ v'.ownBlock = some ((w.alloc (.cells (madeCells #[.int .i64 0] m) 3)).alloc o).heap.size) : Tab w' lo v' (k + 1) m (setR rb k w.heap.size) := by
  have hsz : ((w.alloc (.cells (madeCells #[.int .i64 0] m) 3)).alloc o).heap.size = w.heap.size + 2 := by simp
  have hvb : ∀ b, v.ownBlock = some b → b < w.heap.size := fun b hb => (h.own.lt b hb).2
  refine ⟨by rw [slotsT_snoc]; exact hown, fun i hi => ?_, fun i j hi hj e => ?_, fun i hi e => ?_⟩
  · by_cases hik : i = k
    · subst hik
      rw [setR_same]
      refine ⟨hlo, ?_⟩
      rw [hg.block w.heap.size (by omega) (fun e => by have := hvb _ e.symm; omega)]
      exact (Below.heap_alloc (w.alloc _) o w.heap.size (by simp)).trans (MapKept.heap_alloc w _).1
    · rw [setR_other hik]
      have hlt := h.lt (i := i) (by omega)
      refine ⟨(h.row i (by omega)).1, ?_⟩
      rw [hg.block (rb i) (by omega) (fun e => h.out i (by omega) e.symm), heap_two hlt]
      exact (h.row i (by omega)).2
  · by_cases hik : i = k <;> by_cases hjk : j = k
    · omega
    · subst hik
      rw [setR_same, setR_other hjk] at e
      have := h.lt (i := j) (by omega); omega
    · subst hjk
      rw [setR_same, setR_other hik] at e
      have := h.lt (i := i) (by omega); omega
    · rw [setR_other hik, setR_other hjk] at e
      exact h.inj i j (by omega) (by omega) e
  · by_cases hik : i = k
    · subst hik
      rw [setR_same] at e
      rcases hat with ha | ha
      · have := hvb _ (ha.symm.trans e); omega
      · rw [ha, hsz] at e
        injection e with e; omega
    · rw [setR_other hik] at e
      have hlt := h.lt (i := i) (by omega)
      rcases hat with ha | ha
      · exact h.out i (by omega) (ha.symm.trans e)
      · rw [ha, hsz] at e
        injection e with e; omega
theorem Tab.other {w w' : World} {lo k m k2 : Nat} {v v' v2 : Value} {rb rb2 : Nat → Nat} (h : Tab w lo v k m rb) (h2 : Tab w lo v2 k2 m rb2) (ap : Apt v rb k v2 rb2 k2) {o o1 : Obj}
    (hg : ((w.alloc o1).alloc o).grownBy w' v.ownBlock)
    (hat : v'.ownBlock = v.ownBlock ∨ v'.ownBlock = some ((w.alloc o1).alloc o).heap.size) : Tab w' lo v2 k2 m rb2 ∧ Apt v' (setR rb k w.heap.size) (k + 1) v2 rb2 k2 := by
  have hsz : ((w.alloc o1).alloc o).heap.size = w.heap.size + 2 := by simp
  have hv2 : ∀ b, v2.ownBlock = some b → b < w.heap.size := fun b hb => (h2.own.lt b hb).2
  have hbk : ∀ b, b < w.heap.size → v.ownBlock ≠ some b → w'.heap[b]? = w.heap[b]? := fun b hb hne => (hg.block b (by omega) (fun e => hne e.symm)).trans (heap_two hb)
  refine ⟨⟨?_, fun i hi => ⟨(h2.row i hi).1, (hbk _ (h2.lt hi) (ap.2.2.1 i hi)).trans (h2.row i hi).2⟩, h2.inj, h2.out⟩, ?_⟩
  · obtain ⟨hl, hr⟩ := h2.own
    refine ⟨hl, ?_⟩
    rcases hr with hr | ⟨g, cap, cur, rfl, hgl, hh, hr⟩
    · exact .inl hr
    · refine .inr ⟨g, cap, cur, rfl, hgl, ?_, hr⟩
      rw [hbk g (hv2 g rfl) (fun e => ap.1 g e rfl)]; exact hh
  · have hv' : ∀ b, b < w.heap.size → v'.ownBlock = some b → v.ownBlock = some b := fun b hb e => by
      rcases hat with ha | ha
      · exact ha.symm.trans e
      · rw [ha, hsz] at e
        injection e with e; omega
    refine ⟨fun b hb hb2 => ap.1 b (hv' b (hv2 b hb2) hb) hb2, fun i hi e => ?_, fun i hi e => ap.2.2.1 i hi (hv' _ (h2.lt hi) e), fun i j hi hj e => ?_⟩
    · by_cases hik : i = k
      · subst hik
        rw [setR_same] at e
        have := hv2 _ e; omega
      · rw [setR_other hik] at e
        exact ap.2.1 i (by omega) e
    · by_cases hik : i = k
      · subst hik
        rw [setR_same] at e
        have := h2.lt hj; omega
      · rw [setR_other hik] at e
        exact ap.2.2.2 i j (by omega) hj e

/-- A whole table: m rows of m numbers, as T says. -/
structure Tb (w : World) (lo g m : Nat) (rb : Nat → Nat) (T : Int → Int → Int) : Prop where
  cell : ∀ i, i < m → w.cell? ⟨g, i, none⟩ = some (.slice (some ⟨rb i, 0, none⟩) m m)
  num : ∀ i j : Nat, i < m → j < m → w.cell? ⟨rb i, j, none⟩ = some (.int .i64 (T i j)) ∧ w.frozen? ⟨rb i, j, none⟩ = false
  inj : ∀ i j, i < m → j < m → rb i = rb j → i = j
  out : ∀ i, i < m → g ≠ rb i
  low : lo ≤ g ∧ ∀ i, i < m → lo ≤ rb i
def ApB (g : Nat) (rb : Nat → Nat) (g' : Nat) (rb' : Nat → Nat) (m : Nat) : Prop := g ≠ g' ∧ (∀ i, i < m → g' ≠ rb i ∧ g ≠ rb' i) ∧ ∀ i j, i < m → j < m → rb i ≠ rb' j
theorem ApB.symm {g g' m : Nat} {rb rb' : Nat → Nat} (h : ApB g rb g' rb' m) : ApB g' rb' g rb m := ⟨h.1.symm, fun i hi => ⟨(h.2.1 i hi).2, (h.2.1 i hi).1⟩, fun i j hi hj e => h.2.2 j i hj hi e.symm⟩
theorem Tab.tb {w : World} {lo m : Nat} {v : Value} {rb : Nat → Nat} (h : Tab w lo v m m rb) (hm : 0 < m) : ∃ g c, v = .slice (some ⟨g, 0, none⟩) m c ∧ m ≤ c ∧ c ≤ 9223372036854775807 ∧ v.ownBlock = some g ∧ Tb w lo g m rb (fun _ _ => 0) := by
  obtain ⟨hl, hr⟩ := h.own
  rcases hr with ⟨-, hr⟩ | ⟨g, cap, cur, rfl, hgl, hh, hn, hc, hs, ht⟩
  · omega
  · refine ⟨g, cap, rfl, hn, by unfold maxLen at hc; omega, rfl, ⟨fun i hi => ?_, fun i j hi hj => ?_, h.inj, fun i hi e => h.out i hi (by rw [e]; rfl), hgl, fun i hi => (h.row i hi).1⟩⟩
    · rw [cell_of_row w g i cur _ _ hh]
      have e : (cur.toList.take (m * 1))[i]? = (slotsT rb m m)[i]? := by rw [ht]
      rw [List.getElem?_take, if_pos (by omega)] at e
      rw [← Array.getElem?_toList, e]
      simp [slotsT, hi]
    · have hrow := (h.row i hi).2
      refine ⟨?_, frozen_of_row w _ _ _ _ hrow⟩
      rw [cell_of_row w _ _ _ _ _ hrow, ← Array.getElem?_toList, toList_madeCells_one]
      simp [hj]
theorem Apt.tb {g g' c c' m : Nat} {rb rb' : Nat → Nat} (h : Apt (.slice (some ⟨g, 0, none⟩) m c) rb m (.slice (some ⟨g', 0, none⟩) m c') rb' m) : ApB g rb g' rb' m :=
  ⟨fun e => h.1 g rfl (by rw [e]; rfl), fun i hi => ⟨fun e => h.2.1 i hi (by rw [← e]; rfl), fun e => h.2.2.1 i hi (by rw [← e]; rfl)⟩, h.2.2.2⟩
theorem Tb.drewN {w : World} {lo g m : Nat} {rb : Nat → Nat} {T : Int → Int → Int} (h : Tb w lo g m rb T) (k : Nat) : Tb (w.drewN k) lo g m rb T := ⟨h.1, h.2, h.3, h.4, h.5⟩
theorem Tb.set {w : World} {lo g m : Nat} {rb : Nat → Nat} {T : Int → Int → Int} (h : Tb w lo g m rb T) {i j : Nat} (hi : i < m) (hj : j < m) (x : Int) : Tb (w.setCell ⟨rb i, j, none⟩ (.int .i64 x)) lo g m rb (updF T i j x) := by
  refine ⟨fun i' hi' => ?_, fun i' j' hi' hj' => ?_, h.inj, h.out, h.low⟩
  · rw [World.cell?_setCell_other _ _ _ _ (by intro e; injection e with e; exact h.out i hi e.symm)]
    exact h.cell i' hi'
  · rw [World.frozen?_setCell]
    refine ⟨?_, (h.num i' j' hi' hj').2⟩
    by_cases he : i' = i ∧ j' = j
    · obtain ⟨rfl, rfl⟩ := he
      rw [updF_same]
      exact World.cell?_setCell_same _ _ _ (h.num i' j' hi' hj').1
    · rw [updF_other (by omega), World.cell?_setCell_other _ _ _ _ (by
        intro e; injection e with e1 e2
        have := h.inj i i' hi hi' e1
        omega)]
      exact (h.num i' j' hi' hj').1
theorem Tb.beside {w : World} {lo g m g2 : Nat} {rb rb2 : Nat → Nat} {T : Int → Int → Int} (h : Tb w lo g m rb T) (ap : ApB g rb g2 rb2 m) {i : Nat} (hi : i < m) (j : Nat) (x : Int) : Tb (w.setCell ⟨rb2 i, j, none⟩ (.int .i64 x)) lo g m rb T := by
  refine ⟨fun i' hi' => ?_, fun i' j' hi' hj' => ?_, h.inj, h.out, h.low⟩
  · rw [World.cell?_setCell_other _ _ _ _ (by intro e; injection e with e; exact (ap.2.1 i hi).2 e.symm)]
    exact h.cell i' hi'
  · rw [World.frozen?_setCell, World.cell?_setCell_other _ _ _ _ (by intro e; injection e with e; exact ap.2.2 i' i hi' hi e.symm)]
    exact h.num i' j' hi' hj'
theorem below_set {B : Nat} {a w : World} {b j : Nat} {v : Value} (h : Below B a w) (hb : B ≤ b) : Below B a (w.setCell ⟨b, j, none⟩ v) :=
  h.trans ⟨rfl, rfl, rfl, by simp, fun k hk => heap_setCell_other w ⟨b, j, none⟩ k _ (by show k ≠ b; omega)⟩
theorem Tb.below {w w' : World} {lo g m : Nat} {rb : Nat → Nat} {T : Int → Int → Int} (h : Tb w lo g m rb T) (hb : Below w.heap.size w w') : Tb w' lo g m rb T :=
  ⟨fun i hi => (hb.cell (p := ⟨g, i, none⟩) (block_lt_of_cell (h.cell i hi))).trans (h.cell i hi),
   fun i j hi hj => ⟨(hb.cell (p := ⟨rb i, j, none⟩) (block_lt_of_cell (h.num i j hi hj).1)).trans (h.num i j hi hj).1, by
     have h1 := (h.num i j hi hj).2
     have h2 := hb.block (rb i) (block_lt_of_cell (h.num i j hi hj).1)
     simp only [World.frozen?] at h1 ⊢
     rw [h2]; exact h1⟩, h.inj, h.out, h.low⟩

/-- What has been settled: the first guesses of runs of two and more. -/
def FInv2 (zs : List Int) (F : Int → Int → Int) (L j : Nat) : Prop := ∀ x y : Nat, x + 2 ≤ y → y ≤ zs.length → DoneR L j x y → F x y = fstB zs x y
theorem NInv.start2 (zs : List Int) : NInv zs (fun _ _ => 0) 2 0 := fun x y h1 h2 => ⟨fun h => by unfold DoneR at h; rw [opt_small (by omega)], fun _ => rfl⟩
theorem FInv2.start (zs : List Int) : FInv2 zs (fun _ _ => 0) 2 0 := fun x y h1 h2 h => by unfold DoneR at h; omega
theorem FInv2.step {zs : List Int} {F F' : Int → Int → Int} {L j : Nat} (h : FInv2 zs F L j) (h1 : F' j ((j + L : Nat) : Int) = fstB zs j (j + L)) (h2 : ∀ x y, ¬(x = (j : Int) ∧ y = ((j + L : Nat) : Int)) → F' x y = F x y) : FInv2 zs F' L (j + 1) := fun x y hx hy hd => by
  by_cases he : x = j ∧ y = j + L
  · obtain ⟨rfl, rfl⟩ := he
    exact h1
  · rw [h2 x y (by omega)]
    refine h x y hx hy ?_
    unfold DoneR at *; omega
theorem FInv2.up {zs : List Int} {F : Int → Int → Int} {L j : Nat} (h : FInv2 zs F L j) (hj : zs.length < j + L) : FInv2 zs F (L + 1) 0 := fun x y hx hy hd =>
  h x y hx hy (by unfold DoneR at *; omega)
end Go.Proofs.Ytcgpfdknadijlaa
