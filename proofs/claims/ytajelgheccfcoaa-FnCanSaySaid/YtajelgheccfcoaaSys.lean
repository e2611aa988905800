/- Sayings in memory: plain words, and what is read and owned. -/
import Derived.Test.YtajelgheccfcoaaSoI
import Derived.Test.YtajelgheccfcoaaInts
import Derived.Deep.RegionHeld3
namespace Go.Proofs.Ytajelgheccfcoaa
open Go.RowKit

theorem infoSay : (Try.prog.info? 45).map (fun i => (i.zero, i.size, i.bytes)) = some (some (.agg #[.int .i64 0, .string ⟨#[]⟩]), 2, 24) := by kernel_rfl

abbrev Sy := Int × List UInt8
def noSy : Sy := (0, [])
def cellsS : List Sy → List Value
  | [] => []
  | p :: l => .int .i64 p.1 :: .string (tx p.2) :: cellsS l
theorem length_cellsS : ∀ ps : List Sy, (cellsS ps).length = ps.length * 2
  | [] => rfl
  | p :: l => by simp only [cellsS, List.length_cons, length_cellsS l]; omega
theorem cellsS_append : ∀ a b : List Sy, cellsS (a ++ b) = cellsS a ++ cellsS b
  | [], b => rfl
  | p :: l, b => by simp only [List.cons_append, cellsS, cellsS_append l b]
theorem cellsS_at : ∀ (ps : List Sy) (j : Nat), j < ps.length → (cellsS ps)[j * 2]? = some (.int .i64 (ps.getD j noSy).1) ∧ (cellsS ps)[j * 2 + 1]? = some (.string (tx (ps.getD j noSy).2))
  | [], j, h => absurd h (by simp)
  | p :: l, 0, _ => ⟨rfl, rfl⟩
  | p :: l, j + 1, h => by
    have := cellsS_at l j (by simpa using h)
    rw [show (j + 1) * 2 = j * 2 + 1 + 1 from by omega]
    simpa [cellsS] using this

/-- The value v is a slice that reads as the sayings ps. -/
def RdS (w : World) (v : Value) (ps : List Sy) : Prop :=
  ∃ a cap, v = .slice a ps.length cap ∧ ps.length ≤ cap ∧ cap ≤ 9223372036854775807 ∧
    (0 < ps.length → ∃ g off, a = some ⟨g, off, none⟩ ∧ g < w.heap.size ∧ ∀ j, j < ps.length → w.cell? ⟨g, off + j * 2, none⟩ = some (.int .i64 (ps.getD j noSy).1) ∧ w.cell? ⟨g, off + j * 2 + 1, none⟩ = some (.string (tx (ps.getD j noSy).2)))

theorem RdS.below {w w' : World} {v : Value} {ps : List Sy} {B : Nat} (h : RdS w v ps) (hb : Below B w w') (hB : w.heap.size ≤ B) : RdS w' v ps := by
  obtain ⟨a, cap, rfl, h1, h2, h3⟩ := h
  refine ⟨a, cap, rfl, h1, h2, fun h0 => ?_⟩
  obtain ⟨g, off, rfl, hg, hc⟩ := h3 h0
  refine ⟨g, off, rfl, Nat.lt_of_lt_of_le hg hb.size, fun j hj => ?_⟩
  obtain ⟨c0, c1⟩ := hc j hj
  exact ⟨(hb.cell (p := ⟨g, off + j * 2, none⟩) (Nat.lt_of_lt_of_le hg hB)).trans c0, (hb.cell (p := ⟨g, off + j * 2 + 1, none⟩) (Nat.lt_of_lt_of_le hg hB)).trans c1⟩
theorem RdS.drewN {w : World} {v : Value} {ps : List Sy} (h : RdS w v ps) (n : Nat) : RdS (w.drewN n) v ps := h
theorem Turned.below0 {w w' : World} (h : Turned 0 0 w w') : Below w.heap.size w w' := ⟨h.os, h.tape, h.output, h.size, fun k hk => h.block k hk (.inr (Nat.zero_le _))⟩

theorem rdS_at {w : World} {a : Option Addr} {ps : List Sy} (h : 0 < ps.length → ∃ g off, a = some ⟨g, off, none⟩ ∧ g < w.heap.size ∧ ∀ j, j < ps.length → w.cell? ⟨g, off + j * 2, none⟩ = some (.int .i64 (ps.getD j noSy).1) ∧ w.cell? ⟨g, off + j * 2 + 1, none⟩ = some (.string (tx (ps.getD j noSy).2))) (k : Nat) (hk : k < ps.length) :
    ∃ g off x l, a = some ⟨g, off, none⟩ ∧ g < w.heap.size ∧ (w.cell? ⟨g, off + k * 2, none⟩ = some (.int .i64 x) ∧ w.cell? ⟨g, off + k * 2 + 1, none⟩ = some (.string (tx l))) ∧ Hid ((x, l) = ps.getD k noSy) := by
  obtain ⟨g, off, h1, h2, h3⟩ := h (by omega)
  exact ⟨g, off, _, _, h1, h2, h3 k hk, rfl⟩
theorem memS {ps : List Sy} {k : Nat} (hk : k < ps.length) {q : Sy} (h : q = ps.getD k noSy) : q ∈ ps := by
  rw [h]; simp [List.getD, List.getElem?_eq_getElem hk]
theorem takeS_snoc (ps : List Sy) (k : Nat) (h : k < ps.length) : ps.take (k + 1) = ps.take k ++ [ps.getD k noSy] := by
  rw [List.take_add_one, List.getElem?_eq_getElem h]; simp [List.getD, List.getElem?_eq_getElem h]

/-- The value v is a slice of the call's own, in a block from lo on and below hi, that holds the sayings ps. -/
def OwnS (w : World) (lo hi : Nat) (v : Value) (ps : List Sy) : Prop := w.ownsRow lo 45 2 v ps.length (cellsS ps) ∧ ∀ k, v.ownBlock = some k → k < hi

theorem OwnS.rd {w : World} {lo hi : Nat} {v : Value} {ps : List Sy} (h : OwnS w lo hi v ps) : RdS w v ps := by
  obtain ⟨⟨hl, h⟩, _⟩ := h
  rcases h with ⟨rfl, h0⟩ | ⟨g, cap, cur, rfl, hg, hh, hn, hm, hsz, ht⟩
  · exact ⟨none, 0, by rw [h0], by omega, by omega, fun h => by omega⟩
  · refine ⟨_, cap, rfl, hn, by unfold maxLen at hm; omega, fun _ => ⟨g, 0, rfl, (Array.getElem?_eq_some_iff.1 hh).1, fun j hj => ?_⟩⟩
    have hat : ∀ i, i < ps.length * 2 → w.cell? ⟨g, 0 + i, none⟩ = (cellsS ps)[i]? := fun i hi => by
      rw [cell_of_row w g (0 + i) cur _ (0, 0) hh]
      have e : (cur.toList.take (ps.length * 2))[i]? = (cellsS ps)[i]? := by rw [ht]
      rw [List.getElem?_take, if_pos (by omega)] at e
      rw [Nat.zero_add, ← Array.getElem?_toList, e]
    obtain ⟨c0, c1⟩ := cellsS_at ps j hj
    exact ⟨(hat (j * 2) (by omega)).trans c0, (hat (j * 2 + 1) (by omega)).trans c1⟩

theorem OwnS.keep {w w' : World} {lo hi : Nat} {v : Value} {ps : List Sy} (h : OwnS w lo hi v ps) (hk : ∀ g, lo ≤ g → g < hi → w'.heap[g]? = w.heap[g]?) : OwnS w' lo hi v ps := by
  obtain ⟨⟨hl, h⟩, hb⟩ := h
  refine ⟨⟨hl, ?_⟩, hb⟩
  rcases h with h | ⟨g, cap, cur, rfl, hg, hh, r⟩
  · exact .inl h
  · exact .inr ⟨g, cap, cur, rfl, hg, by rw [hk g hg (hb g rfl)]; exact hh, r⟩
theorem OwnS.below {w w' : World} {lo hi : Nat} {v : Value} {ps : List Sy} (h : OwnS w lo hi v ps) {B : Nat} (hb : Below B w w') (hB : hi ≤ B) : OwnS w' lo hi v ps := h.keep fun g _ hg => hb.block g (by omega)
theorem OwnS.turned {w w' : World} {lo hi lo' hi' : Nat} {v : Value} {ps : List Sy} (h : OwnS w lo hi v ps) (hb : Turned lo' hi' w w') (hh : hi ≤ w.heap.size) (hd : hi ≤ lo' ∨ hi' ≤ lo) : OwnS w' lo hi v ps :=
  h.keep fun g _ _ => hb.block g (by omega) (by omega)
theorem OwnS.wide {w : World} {lo hi lo' hi' : Nat} {v : Value} {ps : List Sy} (h : OwnS w lo hi v ps) (h1 : lo' ≤ lo) (h2 : hi ≤ hi') : OwnS w lo' hi' v ps :=
  ⟨⟨h.1.1, by rcases h.1.2 with h | ⟨g, cap, cur, e, hg, r⟩; exact .inl h; exact .inr ⟨g, cap, cur, e, by omega, r⟩⟩, fun k hk => Nat.lt_of_lt_of_le (h.2 k hk) h2⟩
theorem OwnS.new {w : World} {lo hi : Nat} {v : Value} {ps : List Sy} (h : w.ownsRow lo 45 2 v ps.length (cellsS ps)) (hh : w.heap.size ≤ hi) : OwnS w lo hi v ps :=
  ⟨h, fun k hk => Nat.lt_of_lt_of_le (h.lt k hk).2 hh⟩
theorem ownS_nil (w : World) (lo hi : Nat) : OwnS w lo hi (.slice none 0 0) [] := ⟨World.ownsRow_nil _ _ _ _, fun k hk => (by cases hk)⟩
theorem ownS_lit (w : World) : OwnS (w.alloc (.cells #[] 45)) w.heap.size (w.heap.size + 1) (.slice (some ⟨w.heap.size, 0, none⟩) 0 0) [] :=
  ⟨World.ownsRow_lit w #[] 0 (Nat.le_refl _) (by simp) (by simp), fun k hk => (by injection hk with hk; subst hk; exact Nat.lt_succ_self _)⟩

/-- Behind an append of one saying to sayings of the call's own. -/
theorem say_app {B lo : Nat} {w wr w' : World} {v v' : Value} {ps : List Sy} {p : Sy} {o : Obj} (h : OwnS wr lo wr.heap.size v ps) (hb : Below B w wr) (hB : B ≤ lo) (hlo : lo ≤ wr.heap.size)
    (hown : w'.ownsRow lo 45 2 v' (ps.length + 1) (cellsS ps ++ [.int .i64 p.1, .string (tx p.2)])) (hg : (wr.alloc o).grownBy w' v.ownBlock) :
    OwnS w' lo w'.heap.size v' (ps ++ [p]) ∧ Below B w w' ∧ lo ≤ w'.heap.size := by
  have hs := hg.size
  rw [World.size_alloc] at hs
  refine ⟨OwnS.new (by rw [cellsS_append, List.length_append]; exact hown) (Nat.le_refl _), (hb.alloc (by omega) o).grown hg (by simp; omega) (fun k hk => by have := (h.1.lt k hk).1; omega), by omega⟩

theorem two_new (w : World) (x y : Value) (t : TypeId) : ∀ j u, [x, y][j]? = some u → (w.alloc (.cells #[x, y] t)).cell? ((⟨w.heap.size, 0, none⟩ : Addr).add j) = some u := by
  intro j u hu
  have e : (⟨w.heap.size, 0, none⟩ : Addr).add j = ⟨w.heap.size, 0 + j, none⟩ := by unfold Addr.add; split <;> simp_all
  rw [e, World.cell?_alloc_at _ _ _ _ rfl, Nat.zero_add]
  simpa using hu
theorem two_cell (x : Int) (s : ByteArray) : ∀ u ∈ [Value.int .i64 x, .string s], u.oneCell' = true := fun u hu => by
  simp only [List.mem_cons, List.not_mem_nil, or_false] at hu
  rcases hu with rfl | rfl <;> rfl
theorem rowBlk {w : World} {g : Nat} {cs : Array Value} {t : TypeId} (h : w.heap[g]? = some (.cells cs t (0, 0))) (i : Nat) : w.cell? ⟨g, i, none⟩ = cs[i]? := cell_of_row w g i cs t (0, 0) h
theorem blk2 {w : World} {g : Nat} {x y : Value} {t : TypeId} (h : w.heap[g]? = some (.cells #[x, y] t (0, 0))) :
    (w.cell? ⟨g, 0, none⟩ = some x ∧ w.cell? ⟨g, 1, none⟩ = some y) ∧ w.frozen? ⟨g, 0, none⟩ = false ∧ w.frozen? ⟨g, 1, none⟩ = false ∧ g < w.heap.size :=
  ⟨⟨rowBlk h 0, rowBlk h 1⟩, frozen_of_row w g 0 _ _ h, frozen_of_row w g 1 _ _ h, (Array.getElem?_eq_some_iff.1 h).1⟩
/-- Any bytes are a text's. -/
theorem tx_all (s : ByteArray) : ∃ l, s = tx l ∧ l.length = s.size := ⟨s.data.toList, by cases s; simp [tx], rfl⟩
/-- Texts that are not too long. -/
def Brief (ps : List Sy) : Prop := ∀ q ∈ ps, q.2.length < 4611686018427387904
end Go.Proofs.Ytajelgheccfcoaa
