/- Plain words and lemmas about slices of numbers in memory: what is read, what is owned, what is kept. -/
import Derived.WalkKit
import Derived.BigQuiet
import Derived.Deep.QuietTactic
import Derived.Lib.Hide
import Derived.Deep.LoopGhost
import Derived.WalkLawsBesides
import Derived.Maps.AppendAt
namespace Go.Proofs.Ytcgpfdknadijlaa
open Go.RowKit

/-- The value v is a slice that reads as the numbers zs. -/
def Rd (w : World) (v : Value) (zs : List Int) : Prop :=
  ∃ a cap, v = .slice a zs.length cap ∧ zs.length ≤ cap ∧ cap ≤ 9223372036854775807 ∧
    (0 < zs.length → ∃ g off, a = some ⟨g, off, none⟩ ∧ g < w.heap.size ∧ ∀ j, j < zs.length → w.cell? ⟨g, off + j, none⟩ = some (.int .i64 (zs.getD j 0)))

/-- The value v is a slice of the call's own, in a block from lo on and below hi, that holds the numbers zs. -/
def Own (w : World) (lo hi : Nat) (v : Value) (zs : List Int) : Prop :=
  w.ownsRow lo 3 1 v zs.length (zs.map (Value.int .i64)) ∧ ∀ k, v.ownBlock = some k → k < hi

theorem below_drewN {B : Nat} {a w : World} (h : Below B a w) (n : Nat) : Below B a (w.drewN n) := ⟨h.os, h.tape, h.output, h.size, h.block⟩

theorem Rd.drewN {w : World} {v : Value} {zs : List Int} (h : Rd w v zs) (n : Nat) : Rd (w.drewN n) v zs := h
theorem Own.drewN {w : World} {lo hi : Nat} {v : Value} {zs : List Int} (h : Own w lo hi v zs) (n : Nat) : Own (w.drewN n) lo hi v zs := h

theorem Rd.keep {w w' : World} {v : Value} {zs : List Int} (h : Rd w v zs) (hs : w.heap.size ≤ w'.heap.size) (hk : ∀ g, v.ownBlock = some g → g < w.heap.size → w'.heap[g]? = w.heap[g]?) : Rd w' v zs := by
  obtain ⟨a, cap, rfl, h1, h2, h3⟩ := h
  refine ⟨a, cap, rfl, h1, h2, fun h0 => ?_⟩
  obtain ⟨g, off, rfl, hg, hc⟩ := h3 h0
  refine ⟨g, off, rfl, by omega, fun j hj => ?_⟩
  rw [← hc j hj]
  exact World.cell?_of_block (a := ⟨g, off + j, none⟩) (hk g rfl hg)

theorem Rd.below {w w' : World} {v : Value} {zs : List Int} (h : Rd w v zs) (hb : Below w.heap.size w w') : Rd w' v zs :=
  h.keep hb.size fun g _ hg => hb.block g hg

theorem Own.rd {w : World} {lo hi : Nat} {v : Value} {zs : List Int} (h : Own w lo hi v zs) : Rd w v zs := by
  obtain ⟨⟨hl, h⟩, _⟩ := h
  rcases h with ⟨rfl, h0⟩ | ⟨g, cap, cur, rfl, hg, hh, hn, hm, hsz, ht⟩
  · refine ⟨none, 0, by rw [h0], by omega, by omega, fun h => by omega⟩
  · refine ⟨_, cap, rfl, hn, by unfold maxLen at hm; omega, fun _ => ⟨g, 0, rfl, (Array.getElem?_eq_some_iff.1 hh).1, fun j hj => ?_⟩⟩
    rw [cell_of_row w g (0 + j) cur _ (0, 0) hh]
    have e : (cur.toList.take (zs.length * 1))[j]? = (zs.map (Value.int .i64))[j]? := by rw [ht]
    rw [List.getElem?_take, if_pos (by omega)] at e
    rw [Nat.zero_add, ← Array.getElem?_toList, e]
    simp [List.getD, List.getElem?_eq_getElem hj]

theorem Own.keep {w w' : World} {lo hi : Nat} {v : Value} {zs : List Int} (h : Own w lo hi v zs) (hk : ∀ g, lo ≤ g → g < hi → w'.heap[g]? = w.heap[g]?) : Own w' lo hi v zs := by
  obtain ⟨⟨hl, h⟩, hb⟩ := h
  refine ⟨⟨hl, ?_⟩, hb⟩
  rcases h with h | ⟨g, cap, cur, rfl, hg, hh, r⟩
  · exact .inl h
  · exact .inr ⟨g, cap, cur, rfl, hg, by rw [hk g hg (hb g rfl)]; exact hh, r⟩

theorem Own.below {w w' : World} {lo hi : Nat} {v : Value} {zs : List Int} (h : Own w lo hi v zs) {B : Nat} (hb : Below B w w') (hB : hi ≤ B) : Own w' lo hi v zs :=
  h.keep fun g _ hg => hb.block g (by omega)

/-- Only the blocks from lo on and below hi have turned, and new ones have come. -/
structure Turned (lo hi : Nat) (w w' : World) : Prop where
  os : w'.os = w.os
  tape : w'.tape = w.tape
  output : w'.output = w.output
  size : w.heap.size ≤ w'.heap.size
  block : ∀ k, k < w.heap.size → (k < lo ∨ hi ≤ k) → w'.heap[k]? = w.heap[k]?

theorem Own.turned {w w' : World} {lo hi lo' hi' : Nat} {v : Value} {zs : List Int} (h : Own w lo hi v zs) (hb : Turned lo' hi' w w') (hh : hi ≤ w.heap.size) (hd : hi ≤ lo' ∨ hi' ≤ lo) : Own w' lo hi v zs :=
  h.keep fun g _ _ => hb.block g (by omega) (by omega)

theorem below_turned {B lo hi : Nat} {a w w' : World} (h : Below B a w) (hb : Turned lo hi w w') (hB : B ≤ lo) (hs : B ≤ w.heap.size) : Below B a w' :=
  h.trans ⟨hb.os, hb.tape, hb.output, hb.size, fun k hk => hb.block k (by omega) (.inl (by omega))⟩

theorem Own.new {w : World} {lo hi : Nat} {v : Value} {zs : List Int} (h : w.ownsRow lo 3 1 v zs.length (zs.map (Value.int .i64))) (hh : w.heap.size ≤ hi) : Own w lo hi v zs :=
  ⟨h, fun k hk => Nat.lt_of_lt_of_le (h.lt k hk).2 hh⟩

theorem Own.wide {w : World} {lo hi lo' hi' : Nat} {v : Value} {zs : List Int} (h : Own w lo hi v zs) (h1 : lo' ≤ lo) (h2 : hi ≤ hi') : Own w lo' hi' v zs := by
  obtain ⟨⟨hl, h⟩, hb⟩ := h
  refine ⟨⟨hl, ?_⟩, fun k hk => Nat.lt_of_lt_of_le (hb k hk) h2⟩
  rcases h with h | ⟨g, cap, cur, rfl, hg, r⟩
  · exact .inl h
  · exact .inr ⟨g, cap, cur, rfl, by omega, r⟩

theorem own_cell {w : World} {lo g n cap : Nat} {e : TypeId} {xs : List Value} (h : w.ownsRow lo e 1 (.slice (some ⟨g, 0, none⟩) n cap) n xs) (k : Nat) (hk : k < n) : ∃ u, w.cell? ⟨g, k, none⟩ = some u := by
  have h1 := h.cellAt k (by omega)
  have h2 := h.1
  rw [List.getElem?_eq_getElem (by omega)] at h1
  exact ⟨_, h1⟩

/-- The k-th element's cell, the number under a name of its own. -/
theorem rd_at {w : World} {a : Option Addr} {zs : List Int} (h : 0 < zs.length → ∃ g off, a = some ⟨g, off, none⟩ ∧ g < w.heap.size ∧ ∀ j, j < zs.length → w.cell? ⟨g, off + j, none⟩ = some (.int .i64 (zs.getD j 0))) (k : Nat) (hk : k < zs.length) :
    ∃ g off z, a = some ⟨g, off, none⟩ ∧ g < w.heap.size ∧ w.cell? ⟨g, off + k, none⟩ = some (.int .i64 z) ∧ Hid (z = zs.getD k 0) := by
  obtain ⟨g, off, h1, h2, h3⟩ := h (by omega)
  exact ⟨g, off, _, h1, h2, h3 k hk, rfl⟩

theorem take_snoc (zs : List Int) (k : Nat) (h : k < zs.length) : zs.take (k + 1) = zs.take k ++ [zs.getD k 0] := by
  rw [List.take_add_one, List.getElem?_eq_getElem h]; simp [List.getD, List.getElem?_eq_getElem h]

theorem ret_int {k : IntKind} {a b : Int} (h : a = b) : Ending.returned (.int k a) = .returned (.int k b) := by rw [h]
theorem ret_bool {a b : Bool} (h : a = b) : Ending.returned (.bool a) = .returned (.bool b) := by rw [h]

/-- Behind an append of one number to a slice of the call's own. -/
theorem app_rel {B lo : Nat} {w wr w' : World} {v v' : Value} {zs : List Int} {z : Int} {o : Obj} (hown : wr.ownsRow lo 3 1 v zs.length (zs.map (Value.int .i64))) (hb : Below B w wr) (hB : B ≤ lo) (hlo : lo ≤ wr.heap.size)
    (hown' : w'.ownsRow lo 3 1 v' (zs.length + 1) (zs.map (Value.int .i64) ++ [.int .i64 z])) (hg : (wr.alloc o).grownBy w' v.ownBlock) :
    w'.ownsRow lo 3 1 v' (zs ++ [z]).length ((zs ++ [z]).map (Value.int .i64)) ∧ Below B w w' ∧ lo ≤ w'.heap.size := by
  refine ⟨by simpa using hown', (hb.alloc (by omega) o).grown hg (by simp; omega) (fun k hk => by have := (hown.lt k hk).1; omega), ?_⟩
  have := hg.size
  rw [World.size_alloc] at this
  omega

theorem one_cell (k : IntKind) (x : Int) : ∀ u ∈ [Value.int k x], u.oneCell' = true := fun u hu => by
  simp only [List.mem_singleton] at hu; subst hu; rfl
theorem one_new (w : World) (x : Value) (t : TypeId) : ∀ j u, [x][j]? = some u → (w.alloc (.cells #[x] t)).cell? ((⟨w.heap.size, 0, none⟩ : Addr).add j) = some u := cell_one_new w x t

/-- What a shell tells of a slice of integers that came in. -/
def IsRowB (k : IntKind) (w : World) (a : Option Addr) (len cap : Nat) (zs : List Int) : Prop :=
  (a = none ∧ len = 0 ∧ cap = 0 ∧ zs = []) ∨
  ∃ x, a = some x ∧ len ≤ cap ∧ cap ≤ maxLen ∧ zs.length = cap ∧ (∀ i, i < zs.length → w.cell? (x.add i) = some (.int k (zs.getD i 0))) ∧ ∀ n ∈ zs, (Lit.int k n).wf = true

theorem bd_i64 {n : Int} (h : (Lit.int .i64 n).wf = true) : -9223372036854775808 ≤ n ∧ n ≤ 9223372036854775807 := by
  have h1 : IntKind.i64.min = -9223372036854775808 := rfl
  have h2 : IntKind.i64.max = 9223372036854775807 := rfl
  simp only [Lit.wf, Bool.and_eq_true, decide_eq_true_eq] at h
  omega
theorem bd_u8 {n : Int} (h : (Lit.int .u8 n).wf = true) : 0 ≤ n ∧ n ≤ 255 := by
  have h1 : IntKind.u8.min = 0 := rfl
  have h2 : IntKind.u8.max = 255 := rfl
  simp only [Lit.wf, Bool.and_eq_true, decide_eq_true_eq] at h
  omega

theorem rd_of_row {w : World} {a : Option Addr} {len cap : Nat} {zs : List Int} (h : IsRowB .i64 w a len cap zs) :
    Rd w (.slice a len cap) (zs.take len) ∧ (zs.take len).length = len ∧ ∀ z ∈ zs.take len, -9223372036854775808 ≤ z ∧ z ≤ 9223372036854775807 := by
  rcases h with ⟨rfl, rfl, rfl, rfl⟩ | ⟨x, rfl, hl, hm, hz, hcell, hwz⟩
  · exact ⟨⟨none, 0, rfl, by simp, by omega, fun h => absurd h (by simp)⟩, rfl, by simp⟩
  · have hl2 : (zs.take len).length = len := by simp; omega
    refine ⟨⟨some x, cap, by rw [hl2], by omega, by unfold maxLen at hm; omega, fun h0 => ?_⟩, hl2, fun z hz => bd_i64 (hwz z (List.mem_of_mem_take hz))⟩
    obtain ⟨b, off, spot⟩ := x
    have hc0 := hcell 0 (by omega)
    have hspot : spot = none := by simpa [Addr.add] using World.cell?_spot hc0
    subst hspot
    refine ⟨b, off, rfl, block_lt_of_cell (a := ⟨b, off, none⟩) (by simpa [Addr.add] using hc0), fun j hj => ?_⟩
    have hcj := hcell j (by omega)
    have e : (⟨b, off, none⟩ : Addr).add j = ⟨b, off + j, none⟩ := by unfold Addr.add; split <;> simp_all
    rw [e] at hcj
    rw [hcj]
    have hg : (zs.take len).getD j 0 = zs.getD j 0 := by
      simp only [List.getD]
      rw [List.getElem?_take, if_pos (by omega)]
    rw [hg]

theorem bytes_of_row {w : World} {a : Option Addr} {len cap : Nat} {zs : List Int} (h : IsRowB .u8 w a len cap zs) :
    len ≤ cap ∧ cap ≤ 9223372036854775807 ∧ (0 < len → ∃ b off, a = some ⟨b, off, none⟩ ∧ b < w.heap.size ∧ ∀ j, j < len → ∃ z, w.cell? ⟨b, off + j, none⟩ = some (.int .u8 z) ∧ 0 ≤ z ∧ z ≤ 255) := by
  rcases h with ⟨rfl, rfl, rfl, rfl⟩ | ⟨x, rfl, hl, hm, hz, hcell, hwz⟩
  · exact ⟨by omega, by omega, fun h => absurd h (by omega)⟩
  · refine ⟨hl, by unfold maxLen at hm; omega, fun h0 => ?_⟩
    obtain ⟨b, off, spot⟩ := x
    have hc0 := hcell 0 (by omega)
    have hspot : spot = none := by simpa [Addr.add] using World.cell?_spot hc0
    subst hspot
    refine ⟨b, off, rfl, block_lt_of_cell (a := ⟨b, off, none⟩) (by simpa [Addr.add] using hc0), fun j hj => ?_⟩
    have hcj := hcell j (by omega)
    have e : (⟨b, off, none⟩ : Addr).add j = ⟨b, off + j, none⟩ := by unfold Addr.add; split <;> simp_all
    rw [e] at hcj
    refine ⟨_, hcj, bd_u8 (hwz _ ?_)⟩
    simp only [List.getD]
    rw [List.getElem?_eq_getElem (by omega)]
    exact List.getElem_mem _

end Go.Proofs.Ytcgpfdknadijlaa
