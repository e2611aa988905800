/- Ways of guessing, in plain words. -/
import Derived.Test.YtcgpfdknadijlaaInts
import Derived.Test.YtcgpfdknadijlaaRange
import Derived.Laws.EntriesVeiled
namespace Go.Proofs.Ytcgpfdknadijlaa
open Go.RowKit

/-- A text of these bytes. -/
def tx (l : List UInt8) : ByteArray := ⟨l.toArray⟩
theorem tx_size (l : List UInt8) : (tx l).size = l.length := by simp [tx, ByteArray.size]
theorem tx_head (c : UInt8) (r : List UInt8) : (tx (c :: r))[0]? = some c := by
  have h : 0 < (tx (c :: r)).size := by rw [tx_size]; simp
  rw [getElem?_pos (tx (c :: r)) 0 h]; rfl
theorem tx_tail (c : UInt8) (r : List UInt8) : (tx (c :: r)).extract 1 (r.length + 1) = tx r := by
  apply ByteArray.ext
  simp [tx, ByteArray.data_extract]
theorem tx_empty {l : List UInt8} : (tx l).toList.isEmpty = l.isEmpty := by rw [ByteArray.toList_eq]; rfl
theorem tx_at {l : List UInt8} {i : Nat} {c : UInt8} {r : List UInt8} (h : l.drop i = c :: r) : i < (tx l).size ∧ (tx l)[i]? = some c ∧ r = l.drop (i + 1) ∧ (∀ h' : i < (tx l).size, (tx l)[i] = c) := by
  have hi : i < l.length := by
    by_cases hi : i < l.length
    · exact hi
    · rw [List.drop_eq_nil_iff.2 (by omega)] at h; cases h
  have h1 : i < (tx l).size := by rw [tx_size]; exact hi
  rw [List.drop_eq_getElem_cons hi] at h
  injection h with h2 h3
  have h4 : ∀ h' : i < (tx l).size, (tx l)[i] = c := fun h' => h2
  exact ⟨h1, by rw [getElem?_pos (tx l) i h1, h4], h3.symm, h4⟩
theorem tx_all (s : ByteArray) : ∃ l, s = tx l ∧ l.length = s.size := ⟨s.data.toList, by cases s; simp [tx], rfl⟩
/-- The first byte, 0 if there is none. -/
def hd (l : List UInt8) : Nat := (l.head?.map UInt8.toNat).getD 0

inductive Wy where
  | leaf : Wy
  | node : Nat → Wy → Wy → Wy
def Wy.size : Wy → Nat
  | .leaf => 0
  | .node _ b o => 1 + b.size + o.size
/-- What a way needs at worst. -/
def Wy.cost (zs : List Int) : Wy → Int
  | .leaf => 0
  | .node g b o => if b.size + o.size = 0 then 0 else zs.getD g 0 + max (b.cost zs) (o.cost zs)
/-- What is paid until x is known. -/
def Wy.paid (zs : List Int) (x : Nat) : Wy → Int
  | .leaf => 0
  | .node g b o => if b.size + o.size = 0 then 0 else zs.getD g 0 + (if x < g then b.paid zs x else if g < x then o.paid zs x else 0)

/-- A way is read from the front of a text; its numbers go up from n on. -/
def pw : Nat → Nat → List UInt8 → Option (Wy × List UInt8 × Nat)
  | 0, _, _ => none
  | _ + 1, _, [] => none
  | f + 1, n, c :: r =>
    if c.toNat = 46 then some (.leaf, r, n)
    else if c.toNat = 40 then
      match pw f n r with
      | none => none
      | some (b, r1, g) =>
        if hd r1 = 48 + g ∧ g ≤ 9 then
          match pw f (g + 1) r1.tail with
          | none => none
          | some (o, r2, m) => if hd r2 = 41 then some (.node g b o, r2.tail, m) else none
        else none
    else none

theorem hd_pos {l : List UInt8} (h : 0 < hd l) : ∃ c r, l = c :: r ∧ c.toNat = hd l := by
  cases l with
  | nil => simp [hd] at h
  | cons c r => exact ⟨c, r, rfl, rfl⟩
/-- What was read is a way of the numbers from n on, below m. -/
def Wy.In : Wy → Nat → Nat → Prop
  | .leaf, n, m => n = m
  | .node g b o, n, m => b.In n g ∧ o.In (g + 1) m
theorem Wy.In.size {n m : Nat} : ∀ {t : Wy}, t.In n m → m = n + t.size
  | .leaf, h => by simp only [Wy.In] at h; simp only [Wy.size]; omega
  | .node g b o, h => by
    obtain ⟨h1, h2⟩ := h
    have e1 := h1.size
    have e2 := h2.size
    simp only [Wy.size]; omega
theorem pw_in : ∀ (f n : Nat) (l : List UInt8) (t : Wy) (r : List UInt8) (m : Nat), pw f n l = some (t, r, m) → t.In n m ∧ r.length < l.length
  | 0, n, l, t, r, m, h => by cases l <;> cases h
  | f + 1, n, [], t, r, m, h => by cases h
  | f + 1, n, c :: l, t, r, m, h => by
    simp only [pw] at h
    split at h
    · injection h with h; injection h with h1 h2; injection h2 with h2 h3
      subst h1 h2 h3
      exact ⟨rfl, by simp⟩
    · split at h
      · split at h
        · cases h
        · rename_i b r1 g hb
          have hb := pw_in f n l b r1 g hb
          split at h
          · rename_i hg
            split at h
            · cases h
            · rename_i o r2 m2 ho
              have ho := pw_in f (g + 1) r1.tail o r2 m2 ho
              split at h
              · injection h with h; injection h with h1 h2; injection h2 with h2 h3
                subst h1 h2 h3
                refine ⟨⟨hb.1, ho.1⟩, ?_⟩
                have := ho.2; have := hb.2
                simp only [List.length_tail, List.length_cons] at *
                omega
              · cases h
          · cases h
      · cases h

theorem cost_nonneg {zs : List Int} (h : ∀ z ∈ zs, 0 ≤ z ∧ z ≤ 50) : ∀ t : Wy, 0 ≤ t.cost zs ∧ t.cost zs ≤ 50 * t.size
  | .leaf => by simp [Wy.cost, Wy.size]
  | .node g b o => by
    have hb := cost_nonneg h b
    have ho := cost_nonneg h o
    have hz : 0 ≤ zs.getD g 0 ∧ zs.getD g 0 ≤ 50 := by
      by_cases hg : g < zs.length
      · have : zs.getD g 0 ∈ zs := by simp [List.getD, List.getElem?_eq_getElem hg]
        exact h _ this
      · have e : zs.getD g 0 = 0 := by simp [List.getD, List.getElem?_eq_none (show zs.length ≤ g by omega)]
        omega
    simp only [Wy.cost, Wy.size]
    split <;> omega
theorem paid_le {zs : List Int} (h : ∀ z ∈ zs, 0 ≤ z ∧ z ≤ 50) (x : Nat) : ∀ t : Wy, 0 ≤ t.paid zs x ∧ t.paid zs x ≤ t.cost zs
  | .leaf => by simp [Wy.cost, Wy.paid]
  | .node g b o => by
    have hb := paid_le h x b
    have ho := paid_le h x o
    have hb' := cost_nonneg h b
    have ho' := cost_nonneg h o
    have hz : 0 ≤ zs.getD g 0 ∧ zs.getD g 0 ≤ 50 := by
      by_cases hg : g < zs.length
      · have : zs.getD g 0 ∈ zs := by simp [List.getD, List.getElem?_eq_getElem hg]
        exact h _ this
      · have e : zs.getD g 0 = 0 := by simp [List.getD, List.getElem?_eq_none (show zs.length ≤ g by omega)]
        omega
    simp only [Wy.cost, Wy.paid]
    split
    · omega
    · split
      · omega
      · split <;> omega
end Go.Proofs.Ytcgpfdknadijlaa
