/- The least that is needed, in plain words. -/
import Derived.Test.YtcgpfdknadijlaaCoJ
namespace Go.Proofs.Ytcgpfdknadijlaa
open Go.RowKit

/-- The least of c at f, f + 1 .., j of them, and where it is met first. -/
def scanB (c : Nat → Int) (f : Nat) : Nat → Int × Nat
  | 0 => (-1, f)
  | j + 1 => if (scanB c f j).1 < 0 ∨ c (f + j) < (scanB c f j).1 then (c (f + j), f + j) else scanB c f j
theorem scanB_congr {c c' : Nat → Int} {f : Nat} : ∀ j, (∀ k, f ≤ k → k < f + j → c k = c' k) → scanB c f j = scanB c' f j
  | 0, _ => rfl
  | j + 1, h => by
    have ih := scanB_congr (c := c) (c' := c') j fun k h1 h2 => h k h1 (by omega)
    have h1 := h (f + j) (by omega) (by omega)
    simp only [scanB, ih, h1]
theorem scanB_is {c : Nat → Int} {f : Nat} : ∀ j, (∀ k, f ≤ k → k < f + (j + 1) → 0 ≤ c k) → (scanB c f (j + 1)).1 = c (scanB c f (j + 1)).2 ∧ f ≤ (scanB c f (j + 1)).2 ∧ (scanB c f (j + 1)).2 < f + (j + 1) ∧ ∀ k, f ≤ k → k < f + (j + 1) → (scanB c f (j + 1)).1 ≤ c k
  | 0, h => by
    have e : scanB c f (0 + 1) = (c f, f) := by simp [scanB]
    rw [e]
    refine ⟨rfl, by simp, by simp, fun k h1 h2 => ?_⟩
    obtain rfl : k = f := by omega
    exact Int.le_refl _
  | j + 1, h => by
    obtain ⟨i1, i2, i3, i4⟩ := scanB_is (c := c) (f := f) j fun k h1 h2 => h k h1 (by omega)
    have hn : ¬ (scanB c f (j + 1)).1 < 0 := by
      rw [i1]; have := h _ i2 (by omega); omega
    have e : scanB c f (j + 1 + 1) = if (scanB c f (j + 1)).1 < 0 ∨ c (f + (j + 1)) < (scanB c f (j + 1)).1 then (c (f + (j + 1)), f + (j + 1)) else scanB c f (j + 1) := rfl
    by_cases hc : c (f + (j + 1)) < (scanB c f (j + 1)).1
    · rw [e, if_pos (.inr hc)]
      refine ⟨rfl, by simp, by simp, fun k h1 h2 => ?_⟩
      show c (f + (j + 1)) ≤ c k
      by_cases hk : k = f + (j + 1)
      · rw [hk]; exact Int.le_refl _
      · have := i4 k h1 (by omega); omega
    · rw [e, if_neg (by omega)]
      refine ⟨i1, i2, by omega, fun k h1 h2 => ?_⟩
      by_cases hk : k = f + (j + 1)
      · rw [hk]; omega
      · exact i4 k h1 (by omega)

/-- The least that is needed for the run from f up to t. -/
def optF (zs : List Int) : Nat → Nat → Nat → Int
  | 0, _, _ => 0
  | d + 1, f, t => if t ≤ f + 1 then 0 else (scanB (fun k => zs.getD k 0 + max (optF zs d f k) (optF zs d (k + 1) t)) f (t - f)).1
def opt (zs : List Int) (f t : Nat) : Int := optF zs (t - f) f t
/-- What is needed if k is guessed first. -/
def stepW (zs : List Int) (f t : Nat) (k : Nat) : Int := zs.getD k 0 + max (opt zs f k) (opt zs (k + 1) t)
/-- The first best guess. -/
def fstB (zs : List Int) (f t : Nat) : Nat := if t ≤ f + 1 then f else (scanB (stepW zs f t) f (t - f)).2

theorem optF_fuel (zs : List Int) : ∀ d f t, t - f ≤ d → optF zs d f t = opt zs f t
  | 0, f, t, h => by
    unfold opt; rw [show t - f = 0 by omega]
  | d + 1, f, t, h => by
    unfold opt
    cases hd : t - f with
    | zero => simp [optF, show t ≤ f + 1 by omega]
    | succ d' =>
      by_cases h1 : t ≤ f + 1
      · simp [optF, h1]
      · simp only [optF, if_neg h1]
        congr 1
        refine scanB_congr _ fun k k1 k2 => ?_
        rw [optF_fuel zs d f k (by omega), optF_fuel zs d (k + 1) t (by omega), optF_fuel zs d' f k (by omega), optF_fuel zs d' (k + 1) t (by omega)]
  termination_by d => d
theorem opt_small {zs : List Int} {f t : Nat} (h : t ≤ f + 1) : opt zs f t = 0 := by
  unfold opt
  cases hd : t - f with
  | zero => rfl
  | succ d => simp [optF, h]
theorem opt_eq {zs : List Int} {f t : Nat} (h : f + 2 ≤ t) : opt zs f t = (scanB (stepW zs f t) f (t - f)).1 := by
  obtain ⟨d, hd⟩ : ∃ d, t - f = d + 1 := ⟨t - f - 1, by omega⟩
  rw [← optF_fuel zs (d + 1) f t (by omega)]
  simp only [optF, if_neg (show ¬ t ≤ f + 1 by omega)]
  congr 1
  refine scanB_congr _ fun k k1 k2 => ?_
  rw [optF_fuel zs d f k (by omega), optF_fuel zs d (k + 1) t (by omega)]; rfl
theorem price_at {zs : List Int} (h : ∀ z ∈ zs, 0 ≤ z ∧ z ≤ 50) (g : Nat) : 0 ≤ zs.getD g 0 ∧ zs.getD g 0 ≤ 50 := by
  by_cases hg : g < zs.length
  · have : zs.getD g 0 ∈ zs := by simp [List.getD, List.getElem?_eq_getElem hg]
    exact h _ this
  · have e : zs.getD g 0 = 0 := by simp [List.getD, List.getElem?_eq_none (show zs.length ≤ g by omega)]
    omega
theorem opt_bd {zs : List Int} (h : ∀ z ∈ zs, 0 ≤ z ∧ z ≤ 50) : ∀ d f t, t - f ≤ d → 0 ≤ opt zs f t ∧ opt zs f t ≤ 50 * ((t - f : Nat) : Int)
  | 0, f, t, hd => by rw [opt_small (by omega)]; omega
  | d + 1, f, t, hd => by
    by_cases h1 : t ≤ f + 1
    · rw [opt_small h1]; omega
    · rw [opt_eq (by omega)]
      obtain ⟨j, hj⟩ : ∃ j, t - f = j + 1 := ⟨t - f - 1, by omega⟩
      have hs : ∀ k, f ≤ k → k < f + (j + 1) → 0 ≤ stepW zs f t k ∧ stepW zs f t k ≤ 50 * ((t - f : Nat) : Int) := fun k k1 k2 => by
        have p := price_at h k
        have a := opt_bd h d f k (by omega)
        have b := opt_bd h d (k + 1) t (by omega)
        unfold stepW
        omega
      rw [hj]
      obtain ⟨i1, i2, i3, -⟩ := scanB_is j fun k k1 k2 => (hs k k1 k2).1
      rw [i1]
      have := hs _ i2 i3
      omega
theorem stepW_bd {zs : List Int} (h : ∀ z ∈ zs, 0 ≤ z ∧ z ≤ 50) {f t k : Nat} (hf : f ≤ k) (hk : k < t) : 0 ≤ stepW zs f t k ∧ stepW zs f t k ≤ 50 * ((t - f : Nat) : Int) := by
  have p := price_at h k
  have a := opt_bd h _ f k (Nat.le_refl _)
  have b := opt_bd h _ (k + 1) t (Nat.le_refl _)
  unfold stepW
  omega
/-- No way needs less. -/
theorem opt_le_cost {zs : List Int} (h : ∀ z ∈ zs, 0 ≤ z ∧ z ≤ 50) : ∀ (t : Wy) (n m : Nat), t.In n m → opt zs n m ≤ t.cost zs
  | .leaf, n, m, hi => by
    simp only [Wy.In] at hi
    rw [opt_small (by omega)]; simp [Wy.cost]
  | .node g b o, n, m, hi => by
    obtain ⟨hb, ho⟩ := hi
    have eb := hb.size
    have eo := ho.size
    simp only [Wy.cost]
    by_cases hz : b.size + o.size = 0
    · rw [if_pos hz, opt_small (by omega)]
      exact Int.le_refl _
    · rw [if_neg hz, opt_eq (by omega)]
      obtain ⟨j, hj⟩ : ∃ j, m - n = j + 1 := ⟨m - n - 1, by omega⟩
      rw [hj]
      have hc : ∀ k, n ≤ k → k < n + (j + 1) → 0 ≤ stepW zs n m k := fun k k1 k2 => by
        have p := price_at h k
        have a := opt_bd h _ n k (Nat.le_refl _)
        unfold stepW; omega
      have h4 := (scanB_is j hc).2.2.2 g (by omega) (by omega)
      have h5 := opt_le_cost h b n g hb
      have h6 := opt_le_cost h o (g + 1) m ho
      unfold stepW at h4
      unfold stepW
      omega
theorem leaf_cost {zs : List Int} : ∀ {t : Wy}, t.size = 0 → t.cost zs = 0
  | .leaf, _ => rfl
  | .node g b o, h => by simp [Wy.size] at h
/-- All that a way may need is paid for some number. -/
theorem paid_meets {zs : List Int} (h : ∀ z ∈ zs, 0 ≤ z ∧ z ≤ 50) : ∀ (t : Wy) (n m : Nat), t.In n m → n < m → ∃ x, n ≤ x ∧ x < m ∧ t.paid zs x = t.cost zs
  | .leaf, n, m, hi, hn => by simp only [Wy.In] at hi; omega
  | .node g b o, n, m, hi, hn => by
    obtain ⟨hb, ho⟩ := hi
    have eb := hb.size
    have eo := ho.size
    have cb := cost_nonneg h b
    have co := cost_nonneg h o
    simp only [Wy.cost, Wy.paid]
    by_cases hz : b.size + o.size = 0
    · exact ⟨g, by omega, by omega, by rw [if_pos hz, if_pos hz]⟩
    · rw [if_neg hz]
      by_cases hm : max (b.cost zs) (o.cost zs) = 0
      · refine ⟨g, by omega, by omega, ?_⟩
        rw [if_neg hz, if_neg (Nat.lt_irrefl _), if_neg (Nat.lt_irrefl _), hm]
      · by_cases hbo : o.cost zs ≤ b.cost zs
        · have hs : b.size ≠ 0 := fun e => by have := leaf_cost (zs := zs) e; omega
          obtain ⟨x, x1, x2, x3⟩ := paid_meets h b n g hb (by omega)
          refine ⟨x, x1, by omega, ?_⟩
          rw [if_neg hz, if_pos x2, x3]
          omega
        · have hs : o.size ≠ 0 := fun e => by have := leaf_cost (zs := zs) e; omega
          obtain ⟨x, x1, x2, x3⟩ := paid_meets h o (g + 1) m ho (by omega)
          refine ⟨x, by omega, x2, ?_⟩
          rw [if_neg hz, if_neg (by omega), if_pos (by omega), x3]
          omega
/-- The most that is paid for the first j numbers. -/
def mostP (zs : List Int) (l : List UInt8) : Nat → Int
  | 0 => 0
  | j + 1 => max (mostP zs l j) (paidI zs l j)
theorem paidI_at {zs : List Int} {l : List UInt8} {t : Wy} (hp : priceB zs = true) (hw : okW zs.length l = some t) {j : Nat} (hj : j < zs.length) : paidI zs l j = t.paid zs j := by
  unfold paidI
  rw [hp, hw, inB_true (by omega) (by omega)]
  simp
theorem mostP_le {zs : List Int} {l : List UInt8} {t : Wy} (hp : priceB zs = true) (hw : okW zs.length l = some t) : ∀ j, j ≤ zs.length → 0 ≤ mostP zs l j ∧ mostP zs l j ≤ t.cost zs ∧ ∀ x, x < j → t.paid zs x ≤ mostP zs l j
  | 0, _ => ⟨Int.le_refl _, (cost_nonneg (priceB_yes hp).2 t).1, fun x hx => by omega⟩
  | j + 1, hj => by
    obtain ⟨i1, i2, i3⟩ := mostP_le hp hw j (by omega)
    have e := paidI_at hp hw (j := j) (by omega)
    have q := paid_le (priceB_yes hp).2 j t
    simp only [mostP, e]
    refine ⟨by omega, by omega, fun x hx => ?_⟩
    by_cases hxj : x = j
    · subst hxj; omega
    · have := i3 x (by omega); omega
theorem mostP_all {zs : List Int} {l : List UInt8} {t : Wy} (hp : priceB zs = true) (hw : okW zs.length l = some t) : mostP zs l zs.length = t.cost zs := by
  obtain ⟨h1, h2, h3⟩ := mostP_le hp hw zs.length (Nat.le_refl _)
  have hi := okW_in hw
  by_cases h0 : 0 < zs.length
  · obtain ⟨x, -, x2, x3⟩ := paid_meets (priceB_yes hp).2 t 0 zs.length hi.1 h0
    have := h3 x x2
    omega
  · have := leaf_cost (zs := zs) (t := t) (by omega)
    omega
/-- What is surely enough. -/
def sureI (zs : List Int) : Int := if priceB zs then opt zs 0 zs.length else -1
theorem sure_le {zs : List Int} {l : List UInt8} (h : 0 ≤ needI zs l) : priceB zs = true ∧ sureI zs ≤ needI zs l ∧ mostP zs l zs.length = needI zs l ∧ needI zs l ≤ 500 := by
  unfold needI at h
  by_cases hp : priceB zs = true
  · rw [if_pos hp] at h
    cases hw : okW zs.length l with
    | none => rw [hw] at h; exact absurd h (by show ¬ (0 : Int) ≤ -1; decide)
    | some t =>
      have hi := okW_in hw
      have hz := priceB_yes hp
      refine ⟨hp, ?_, ?_, ?_⟩
      · unfold sureI needI; rw [if_pos hp, if_pos hp, hw]; exact opt_le_cost hz.2 t 0 _ hi.1
      · unfold needI; rw [if_pos hp, hw]; exact mostP_all hp hw
      · unfold needI; rw [if_pos hp, hw]
        have := cost_nonneg hz.2 t
        show t.cost zs ≤ 500
        omega
  · rw [if_neg hp] at h; exact absurd h (by decide)
end Go.Proofs.Ytcgpfdknadijlaa
