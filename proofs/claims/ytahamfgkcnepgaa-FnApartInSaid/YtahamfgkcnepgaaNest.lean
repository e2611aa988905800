/- Plain words and lemmas about rows of numbers in memory. -/
import Derived.Test.YtahamfgkcnepgaaDrawVis
namespace Go.Proofs.Ytahamfgkcnepgaa
open Go.RowKit

theorem infoRow : (Try.prog.info? 49).map (fun i => (i.zero, i.size, i.bytes)) = some (some (.slice none 0 0), 1, 24) := by kernel_rfl

/-- The value v is a slice of slices that reads as the rows zss. -/
def RdR (w : World) (v : Value) (zss : List (List Int)) : Prop :=
  ∃ a cap, v = .slice a zss.length cap ∧ zss.length ≤ cap ∧ cap ≤ 9223372036854775807 ∧
    (0 < zss.length → ∃ g off, a = some ⟨g, off, none⟩ ∧ g < w.heap.size ∧ ∀ j, j < zss.length → ∃ u, w.cell? ⟨g, off + j, none⟩ = some u ∧ Rd w u (zss.getD j []))

theorem RdR.below {w w' : World} {v : Value} {zss : List (List Int)} (h : RdR w v zss) (hb : Below w.heap.size w w') : RdR w' v zss := by
  obtain ⟨a, cap, rfl, h1, h2, h3⟩ := h
  refine ⟨a, cap, rfl, h1, h2, fun h0 => ?_⟩
  obtain ⟨g, off, rfl, hg, hc⟩ := h3 h0
  refine ⟨g, off, rfl, Nat.lt_of_lt_of_le hg hb.size, fun j hj => ?_⟩
  obtain ⟨u, hu, hr⟩ := hc j hj
  exact ⟨u, (hb.cell (p := ⟨g, off + j, none⟩) hg).trans hu, hr.below hb⟩
theorem RdR.drewN {w : World} {v : Value} {zss : List (List Int)} (h : RdR w v zss) (n : Nat) : RdR (w.drewN n) v zss := h

/-- The k-th row: its cell, the row under a name of its own. -/
theorem rdR_at {w : World} {a : Option Addr} {zss : List (List Int)} (h : 0 < zss.length → ∃ g off, a = some ⟨g, off, none⟩ ∧ g < w.heap.size ∧ ∀ j, j < zss.length → ∃ u, w.cell? ⟨g, off + j, none⟩ = some u ∧ Rd w u (zss.getD j [])) (k : Nat) (hk : k < zss.length) :
    ∃ g off A c zs, a = some ⟨g, off, none⟩ ∧ g < w.heap.size ∧ w.cell? ⟨g, off + k, none⟩ = some (.slice A zs.length c) ∧ Rd w (.slice A zs.length c) zs ∧ Hid (zs = zss.getD k []) := by
  obtain ⟨g, off, h1, h2, h3⟩ := h (by omega)
  obtain ⟨u, hu, hr⟩ := h3 k hk
  obtain ⟨A, c, rfl, hh⟩ := hr
  exact ⟨g, off, A, c, _, h1, h2, hu, ⟨A, c, rfl, hh⟩, rfl⟩

theorem own_sl {w : World} {lo hi : Nat} {v : Value} {zs : List Int} (h : Own w lo hi v zs) : ∃ A c, v = .slice A zs.length c := by
  obtain ⟨⟨_, h⟩, _⟩ := h
  rcases h with ⟨rfl, h0⟩ | ⟨g, cap, cur, rfl, _⟩
  · exact ⟨none, 0, by rw [h0]⟩
  · exact ⟨_, _, rfl⟩

def rowLo (u : Value) : Nat := match u.ownBlock with | some g => g | none => 0
def rowHi (u : Value) : Nat := match u.ownBlock with | some g => g + 1 | none => 0
def nilV : Value := .slice none 0 0

theorem own_tight {w : World} {lo hi : Nat} {u : Value} {zs : List Int} (h : Own w lo hi u zs) : Own w (rowLo u) (rowHi u) u zs ∧ ∀ k, u.ownBlock = some k → lo ≤ k ∧ k < hi := by
  obtain ⟨⟨hl, h⟩, hi'⟩ := h
  rcases h with ⟨rfl, h0⟩ | ⟨g, cap, cur, rfl, hg, r⟩
  · exact ⟨⟨⟨hl, .inl ⟨rfl, h0⟩⟩, fun k hk => by cases hk⟩, fun k hk => by cases hk⟩
  · refine ⟨⟨⟨hl, .inr ⟨g, cap, cur, rfl, Nat.le_refl _, r⟩⟩, fun k hk => ?_⟩, fun k hk => ?_⟩
    · have : g = k := by injection hk
      subst this; exact Nat.lt_succ_self _
    · have : g = k := by injection hk
      subst this; exact ⟨hg, hi' _ rfl⟩

theorem row_blk {u : Value} {k : Nat} (h : u.ownBlock = some k) : rowLo u = k ∧ rowHi u = k + 1 := by unfold rowLo rowHi; rw [h]; exact ⟨rfl, rfl⟩
theorem row_none {u : Value} (h : u.ownBlock = none) : rowLo u = 0 ∧ rowHi u = 0 := by unfold rowLo rowHi; rw [h]; exact ⟨rfl, rfl⟩

/-- What a row's block holds: numbers. -/
theorem own_int {w : World} {lo hi k : Nat} {u : Value} {zs : List Int} (h : Own w lo hi u zs) (hk : u.ownBlock = some k) : ∃ cur, w.heap[k]? = some (.cells cur 3 (0, 0)) := by
  obtain ⟨⟨hl, h⟩, -⟩ := h
  rcases h with ⟨rfl, h0⟩ | ⟨g, cap, cur, rfl, hg, hh, r⟩
  · cases hk
  · have : g = k := by injection hk
    subst this; exact ⟨cur, hh⟩
theorem owns_row {w : World} {lo n k : Nat} {v : Value} {us : List Value} (h : w.ownsRow lo 49 1 v n us) (hk : v.ownBlock = some k) : ∃ cur, w.heap[k]? = some (.cells cur 49 (0, 0)) := by
  obtain ⟨hl, h⟩ := h
  rcases h with ⟨rfl, h0⟩ | ⟨g, cap, cur, rfl, hg, hh, r⟩
  · cases hk
  · have : g = k := by injection hk
    subst this; exact ⟨cur, hh⟩

/-- The value v is a slice of the call's own, and each of its rows is one, all apart; blocks from lo on and below hi. -/
structure OwnR (w : World) (lo hi : Nat) (v : Value) (us : List Value) (zss : List (List Int)) : Prop where
  outer : w.ownsRow lo 49 1 v zss.length us
  outb : ∀ k, v.ownBlock = some k → k < hi
  inner : ∀ j, j < zss.length → Own w (rowLo (us.getD j nilV)) (rowHi (us.getD j nilV)) (us.getD j nilV) (zss.getD j []) ∧ ∀ k, (us.getD j nilV).ownBlock = some k → lo ≤ k ∧ k < hi
  apart : ∀ i j k, i < zss.length → j < zss.length → i ≠ j → (us.getD i nilV).ownBlock = some k → (us.getD j nilV).ownBlock ≠ some k

theorem OwnR.len {w : World} {lo hi : Nat} {v : Value} {us : List Value} {zss : List (List Int)} (h : OwnR w lo hi v us zss) : us.length = zss.length := by simpa using h.outer.1

theorem outer_keep {w w' : World} {lo n : Nat} {v : Value} {us : List Value} (h : w.ownsRow lo 49 1 v n us) (hk : ∀ g, v.ownBlock = some g → w'.heap[g]? = w.heap[g]?) : w'.ownsRow lo 49 1 v n us := by
  obtain ⟨hl, h⟩ := h
  rcases h with h | ⟨g, cap, cur, rfl, hg, hh, r⟩
  · exact ⟨hl, .inl h⟩
  · exact ⟨hl, .inr ⟨g, cap, cur, rfl, hg, (hk g rfl).trans hh, r⟩⟩

theorem tight_keep {w w' : World} {u : Value} {zs : List Int} (h : Own w (rowLo u) (rowHi u) u zs) (hk : ∀ g, u.ownBlock = some g → w'.heap[g]? = w.heap[g]?) : Own w' (rowLo u) (rowHi u) u zs := by
  refine h.keep fun g h1 h2 => ?_
  cases hb : u.ownBlock with
  | none => have := row_none hb; omega
  | some k =>
    have := row_blk hb
    have : g = k := by omega
    subst this; exact hk _ hb

theorem OwnR.keep {w w' : World} {lo hi : Nat} {v : Value} {us : List Value} {zss : List (List Int)} (h : OwnR w lo hi v us zss) (hk : ∀ g, lo ≤ g → g < hi → w'.heap[g]? = w.heap[g]?) : OwnR w' lo hi v us zss :=
  ⟨outer_keep h.outer fun g hg => hk g (h.outer.lt g hg).1 (h.outb g hg), h.outb, fun j hj => ⟨tight_keep (h.inner j hj).1 fun g hg => hk g ((h.inner j hj).2 g hg).1 ((h.inner j hj).2 g hg).2, (h.inner j hj).2⟩, h.apart⟩
theorem OwnR.below {w w' : World} {lo hi : Nat} {v : Value} {us : List Value} {zss : List (List Int)} (h : OwnR w lo hi v us zss) {B : Nat} (hb : Below B w w') (hB : hi ≤ B) : OwnR w' lo hi v us zss := h.keep fun g _ hg => hb.block g (by omega)
theorem OwnR.drewN {w : World} {lo hi : Nat} {v : Value} {us : List Value} {zss : List (List Int)} (h : OwnR w lo hi v us zss) (n : Nat) : OwnR (w.drewN n) lo hi v us zss := h.keep fun _ _ _ => rfl
theorem OwnR.turned {w w' : World} {lo hi lo' hi' : Nat} {v : Value} {us : List Value} {zss : List (List Int)} (h : OwnR w lo hi v us zss) (hb : Turned lo' hi' w w') (hh : hi ≤ w.heap.size) (hd : hi ≤ lo' ∨ hi' ≤ lo) : OwnR w' lo hi v us zss :=
  h.keep fun g _ _ => hb.block g (by omega) (by omega)
theorem OwnR.wide {w : World} {lo hi lo' hi' : Nat} {v : Value} {us : List Value} {zss : List (List Int)} (h : OwnR w lo hi v us zss) (h1 : lo' ≤ lo) (h2 : hi ≤ hi') : OwnR w lo' hi' v us zss :=
  ⟨⟨h.outer.1, by rcases h.outer.2 with h | ⟨g, cap, cur, e, hg, r⟩; exact .inl h; exact .inr ⟨g, cap, cur, e, by omega, r⟩⟩, fun k hk => Nat.lt_of_lt_of_le (h.outb k hk) h2, fun j hj => ⟨(h.inner j hj).1, fun k hk => by have := (h.inner j hj).2 k hk; omega⟩, h.apart⟩

theorem OwnR.rd {w : World} {lo hi : Nat} {v : Value} {us : List Value} {zss : List (List Int)} (h : OwnR w lo hi v us zss) : RdR w v zss := by
  have hl := h.len
  obtain ⟨_, h2⟩ := h.outer
  rcases h2 with ⟨rfl, h0⟩ | ⟨g, cap, cur, rfl, hg, hh, hn, hm, hsz, ht⟩
  · exact ⟨none, 0, by rw [h0], by omega, by omega, fun h => by omega⟩
  · refine ⟨_, cap, rfl, hn, by unfold maxLen at hm; omega, fun _ => ⟨g, 0, rfl, (Array.getElem?_eq_some_iff.1 hh).1, fun j hj => ?_⟩⟩
    refine ⟨us.getD j nilV, ?_, (h.inner j hj).1.rd⟩
    rw [cell_of_row w g (0 + j) cur _ (0, 0) hh]
    have e : (cur.toList.take (zss.length * 1))[j]? = us[j]? := by rw [ht]
    rw [List.getElem?_take, if_pos (by omega)] at e
    rw [Nat.zero_add, ← Array.getElem?_toList, e]
    simp [List.getD, List.getElem?_eq_getElem (show j < us.length by omega)]

theorem ownR_nil (w : World) (lo hi : Nat) : OwnR w lo hi (.slice none 0 0) [] [] :=
  ⟨World.ownsRow_nil _ _ _ _, fun k hk => (by cases hk), fun j hj => absurd hj (by simp), fun i j k hi => absurd hi (by simp)⟩

/-- The block of the rows is no row's block. -/
theorem OwnR.aparto {w : World} {lo hi : Nat} {v : Value} {us : List Value} {zss : List (List Int)} (h : OwnR w lo hi v us zss) {j k : Nat} (hj : j < zss.length) (hk : (us.getD j nilV).ownBlock = some k) : v.ownBlock ≠ some k := by
  intro hv
  obtain ⟨c1, e1⟩ := own_int (h.inner j hj).1 hk
  obtain ⟨c2, e2⟩ := owns_row h.outer hv
  rw [e1] at e2
  injection e2 with e2
  injection e2 with e3 e4
  exact absurd e4 (by decide)

/-- One row has turned. -/
theorem OwnR.rowTurned {w w' : World} {lo hi j : Nat} {v : Value} {us : List Value} {zss : List (List Int)} {zs : List Int} (h : OwnR w lo hi v us zss) (hh : hi ≤ w.heap.size) (hj : j < zss.length) (ho : Own w' (rowLo (us.getD j nilV)) (rowHi (us.getD j nilV)) (us.getD j nilV) zs)
    (ht : Turned (rowLo (us.getD j nilV)) (rowHi (us.getD j nilV)) w w') : OwnR w' lo hi v us (zss.set j zs) ∧ Turned lo hi w w' := by
  have hk : ∀ g, g < w.heap.size → (us.getD j nilV).ownBlock ≠ some g → w'.heap[g]? = w.heap[g]? := fun g hg hne => by
    refine ht.block g hg ?_
    cases hb : (us.getD j nilV).ownBlock with
    | none => have := row_none hb; omega
    | some k => have := row_blk hb; rw [hb] at hne; have : k ≠ g := fun e => hne (by rw [e]); omega
  refine ⟨⟨?_, h.outb, fun i hi' => ?_, fun i m k hi' hm => h.apart i m k (by simpa using hi') (by simpa using hm)⟩, ⟨ht.os, ht.tape, ht.output, ht.size, fun k hk1 hk2 => hk k hk1 fun hb => ?_⟩⟩
  · rw [List.length_set]
    exact outer_keep h.outer fun g hg => hk g (h.outer.lt g hg).2 fun hb => h.aparto hj hb hg
  · rw [List.length_set] at hi'
    refine ⟨?_, (h.inner i hi').2⟩
    by_cases hij : i = j
    · subst hij
      have : (zss.set i zs).getD i [] = zs := by simp [List.getD, hi']
      rw [this]; exact ho
    · have : (zss.set j zs).getD i [] = zss.getD i [] := by simp only [List.getD]; rw [List.getElem?_set_ne (fun e => hij e.symm)]
      rw [this]
      exact tight_keep (h.inner i hi').1 fun g hg => hk g (by have := ((h.inner i hi').2 g hg).2; omega) (h.apart i j g hi' hj hij hg)
  · have := (h.inner j hj).2 k hb; omega

/-- A row is laid behind the others. -/
theorem OwnR.snoc {w W w' : World} {lo hi B : Nat} {v v' u : Value} {us : List Value} {zss : List (List Int)} {zs : List Int} (h : OwnR w lo hi v us zss) (hh : hi ≤ w.heap.size) (hb : Below w.heap.size w W) (hu : Own W (rowLo u) (rowHi u) u zs) (hub : ∀ k, u.ownBlock = some k → w.heap.size ≤ k ∧ k < W.heap.size)
    (hown : w'.ownsRow lo 49 1 v' (zss.length + 1) (us ++ [u])) (hgr : W.grownBy w' v.ownBlock) (hlo : lo ≤ w.heap.size) (hB : B = w'.heap.size) : OwnR w' lo B v' (us ++ [u]) (zss ++ [zs]) := by
  subst hB
  have hl := h.len
  have hvb : ∀ k, v.ownBlock = some k → k < w.heap.size := fun k hk => (h.outer.lt k hk).2
  have hk : ∀ g, g < W.heap.size → v.ownBlock ≠ some g → w'.heap[g]? = W.heap[g]? := fun g hg hne => hgr.block g hg (fun e => hne e.symm)
  have hs := hgr.size
  have hs2 := hb.size
  refine ⟨by simpa using hown, fun k hk => (hown.lt k hk).2, fun j hj => ?_, fun i j k hi' hj hij hk1 hk2 => ?_⟩
  · rw [List.length_append, List.length_singleton] at hj
    by_cases hjn : j < zss.length
    · have e1 : (us ++ [u]).getD j nilV = us.getD j nilV := by simp only [List.getD]; rw [List.getElem?_append_left (by omega)]
      have e2 : (zss ++ [zs]).getD j [] = zss.getD j [] := by simp only [List.getD]; rw [List.getElem?_append_left hjn]
      rw [e1, e2]
      refine ⟨tight_keep (h.inner j hjn).1 fun g hg => ?_, fun k hk2 => by have := (h.inner j hjn).2 k hk2; omega⟩
      have hg2 := (h.inner j hjn).2 g hg
      rw [hk g (by omega) (h.aparto hjn hg), hb.block g (by omega)]
    · obtain rfl : j = zss.length := by omega
      have e1 : (us ++ [u]).getD zss.length nilV = u := by rw [← hl]; simp [List.getD]
      have e2 : (zss ++ [zs]).getD zss.length [] = zs := by simp [List.getD]
      rw [e1, e2]
      refine ⟨tight_keep hu fun g hg => hk g (hub g hg).2 fun e => ?_, fun k hk2 => by have := hub k hk2; omega⟩
      have := hvb g e; have := hub g hg; omega
  · rw [List.length_append, List.length_singleton] at hi' hj
    have eg : ∀ j, j < zss.length → (us ++ [u]).getD j nilV = us.getD j nilV := fun j hj => by simp only [List.getD]; rw [List.getElem?_append_left (by omega)]
    have el : (us ++ [u]).getD zss.length nilV = u := by rw [← hl]; simp [List.getD]
    by_cases h1 : i < zss.length
    · rw [eg i h1] at hk1
      by_cases h2 : j < zss.length
      · rw [eg j h2] at hk2; exact h.apart i j k h1 h2 hij hk1 hk2
      · obtain rfl : j = zss.length := by omega
        rw [el] at hk2
        have := (h.inner i h1).2 k hk1; have := hub k hk2; omega
    · obtain rfl : i = zss.length := by omega
      rw [el] at hk1
      by_cases h2 : j < zss.length
      · rw [eg j h2] at hk2
        have := (h.inner j h2).2 k hk2; have := hub k hk1; omega
      · omega

/-- A row is laid into its place. -/
theorem OwnR.put {w W : World} {lo hi g cap j B : Nat} {u : Value} {us : List Value} {zss : List (List Int)} {zs : List Int} (h : OwnR w lo hi (.slice (some ⟨g, 0, none⟩) zss.length cap) us zss) (hh : hi ≤ w.heap.size) (hb : Below w.heap.size w W) (hu : Own W (rowLo u) (rowHi u) u zs) (hub : ∀ k, u.ownBlock = some k → w.heap.size ≤ k ∧ k < W.heap.size)
    (hj : j < zss.length) (hB : B = W.heap.size) : OwnR (W.setCell ⟨g, j, none⟩ u) lo B (.slice (some ⟨g, 0, none⟩) zss.length cap) (us.set j u) (zss.set j zs) ∧ Turned lo hi w (W.setCell ⟨g, j, none⟩ u) := by
  subst hB
  have hl := h.len
  have hgb := h.outb g rfl
  have hgl := h.outer.lt g rfl
  have hst := (outer_keep h.outer (fun k hk => hb.block k (by have := h.outer.lt k hk; omega))).stored j u
  have hk : ∀ k, k ≠ g → (W.setCell ⟨g, j, none⟩ u).heap[k]? = W.heap[k]? := fun k hk => heap_setCell_other W ⟨g, j, none⟩ k _ hk
  have hs2 := hb.size
  refine ⟨⟨by rw [List.length_set]; exact hst.1, fun k hk => ?_, fun i hi' => ?_, fun i m k hi' hm hij hk1 hk2 => ?_⟩, ⟨hb.os, hb.tape, hb.output, by simpa using hb.size, fun k hk1 hk2 => (hk k (by omega)).trans (hb.block k hk1)⟩⟩
  · have : g = k := by injection hk
    omega
  · rw [List.length_set] at hi'
    by_cases hij : i = j
    · subst hij
      have e1 : (us.set i u).getD i nilV = u := by simp [List.getD, hl, hi']
      have e2 : (zss.set i zs).getD i [] = zs := by simp [List.getD, hi']
      rw [e1, e2]
      exact ⟨tight_keep hu fun k hk1 => hk k (by have := hub k hk1; omega), fun k hk1 => by have := hub k hk1; omega⟩
    · have e1 : (us.set j u).getD i nilV = us.getD i nilV := by simp only [List.getD]; rw [List.getElem?_set_ne (fun e => hij e.symm)]
      have e2 : (zss.set j zs).getD i [] = zss.getD i [] := by simp only [List.getD]; rw [List.getElem?_set_ne (fun e => hij e.symm)]
      rw [e1, e2]
      refine ⟨tight_keep (h.inner i hi').1 fun k hk1 => ?_, fun k hk1 => by have := (h.inner i hi').2 k hk1; omega⟩
      have h1 := h.aparto hi' hk1
      have h2 := (h.inner i hi').2 k hk1
      have hne : k ≠ g := fun e => h1 (by rw [e]; rfl)
      rw [hk k hne, hb.block k (by omega)]
  · rw [List.length_set] at hi' hm
    have eg : ∀ i, i ≠ j → (us.set j u).getD i nilV = us.getD i nilV := fun i hij => by simp only [List.getD]; rw [List.getElem?_set_ne (fun e => hij e.symm)]
    have ej : (us.set j u).getD j nilV = u := by simp [List.getD, hl, hj]
    by_cases h1 : i = j
    · subst h1
      rw [ej] at hk1
      rw [eg m (fun e => hij e.symm)] at hk2
      have := (h.inner m hm).2 k hk2; have := hub k hk1; omega
    · rw [eg i h1] at hk1
      by_cases h2 : m = j
      · subst h2
        rw [ej] at hk2
        have := (h.inner i hi').2 k hk1; have := hub k hk2; omega
      · rw [eg m h2] at hk2
        exact h.apart i m k hi' hm hij hk1 hk2

theorem takeR_snoc (zss : List (List Int)) (k : Nat) (h : k < zss.length) : zss.take (k + 1) = zss.take k ++ [zss.getD k []] := by
  rw [List.take_add_one, List.getElem?_eq_getElem h]; simp [List.getD, List.getElem?_eq_getElem h]

/-- How many numbers the rows have. -/
def manyR : List (List Int) → Nat
  | [] => 0
  | zs :: r => zs.length + manyR r
theorem manyR_append : ∀ a b : List (List Int), manyR (a ++ b) = manyR a + manyR b
  | [], b => by simp [manyR]
  | x :: a, b => by simp only [List.cons_append, manyR, manyR_append a b]; omega
/-- The rows, with the numbers k, k + 1, .. in them. -/
def upRows (k : Int) : List (List Int) → List (List Int)
  | [] => []
  | zs :: r => upFrom k zs.length :: upRows (k + zs.length) r
theorem upRows_append (k : Int) : ∀ a b : List (List Int), upRows k (a ++ b) = upRows k a ++ upRows (k + manyR a) b
  | [], b => by simp [upRows, manyR]
  | x :: a, b => by
    simp only [List.cons_append, upRows, manyR]
    rw [upRows_append (k + x.length) a b, Int.natCast_add, Int.add_assoc]
theorem length_upRows (k : Int) : ∀ a : List (List Int), (upRows k a).length = a.length
  | [] => rfl
  | x :: a => by simp only [upRows, List.length_cons]; rw [length_upRows]
theorem manyR_take_le (zss : List (List Int)) (k : Nat) : manyR (zss.take k) ≤ manyR zss := by
  have := manyR_append (zss.take k) (zss.drop k)
  rw [List.take_append_drop] at this; omega
theorem manyR_snoc (zss : List (List Int)) (k : Nat) (h : k < zss.length) : manyR (zss.take (k + 1)) = manyR (zss.take k) + (zss.getD k []).length := by
  rw [takeR_snoc zss k h, manyR_append]; simp [manyR]
theorem upRows_step (zss : List (List Int)) (k0 : Int) (k : Nat) (h : k < zss.length) : (upRows k0 (zss.take k) ++ zss.drop k).set k (upFrom (k0 + manyR (zss.take k)) (zss.getD k []).length) = upRows k0 (zss.take (k + 1)) ++ zss.drop (k + 1) := by
  have hl : (upRows k0 (zss.take k)).length = k := by rw [length_upRows, List.length_take]; omega
  rw [takeR_snoc zss k h, upRows_append, List.set_append_right _ _ (by omega), hl, Nat.sub_self, List.drop_eq_getElem_cons h, List.set_cons_zero]
  simp [upRows, List.getD, List.getElem?_eq_getElem h]
theorem getD_upd (zss : List (List Int)) (k0 : Int) (k : Nat) (h : k < zss.length) : (upRows k0 (zss.take k) ++ zss.drop k).getD k [] = zss.getD k [] := by
  have hl : (upRows k0 (zss.take k)).length = k := by rw [length_upRows, List.length_take]; omega
  simp only [List.getD]
  rw [List.getElem?_append_right (by omega), hl, Nat.sub_self, List.getElem?_drop]; simp
theorem length_upd (zss : List (List Int)) (k0 : Int) (k : Nat) (h : k ≤ zss.length) : (upRows k0 (zss.take k) ++ zss.drop k).length = zss.length := by
  rw [List.length_append, length_upRows, List.length_take, List.length_drop]; omega
theorem getD_upRows (zss : List (List Int)) (k0 : Int) (k : Nat) (h : k < zss.length) : (upRows k0 zss).getD k [] = upFrom (k0 + manyR (zss.take k)) (zss.getD k []).length := by
  have e : upRows k0 zss = upRows k0 (zss.take k) ++ upRows (k0 + manyR (zss.take k)) (zss.drop k) := by rw [← upRows_append, List.take_append_drop]
  have hl : (upRows k0 (zss.take k)).length = k := by rw [length_upRows, List.length_take]; omega
  rw [e]
  simp only [List.getD]
  rw [List.getElem?_append_right (by omega), hl, Nat.sub_self, List.drop_eq_getElem_cons h]
  simp [upRows, List.getElem?_eq_getElem h]
end Go.Proofs.Ytahamfgkcnepgaa
