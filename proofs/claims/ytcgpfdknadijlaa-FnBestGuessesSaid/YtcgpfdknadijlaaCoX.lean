/- The best way, and its text. -/
import Derived.Test.YtcgpfdknadijlaaCoQ
namespace Go.Proofs.Ytcgpfdknadijlaa
open Go.RowKit

def txt : Wy → List UInt8
  | .leaf => [46]
  | .node g b o => 40 :: (txt b ++ (UInt8.ofNat (48 + g) :: (txt o ++ [41])))
theorem txt_length : ∀ t : Wy, (txt t).length = 4 * t.size + 1
  | .leaf => rfl
  | .node g b o => by
    have hb := txt_length b
    have ho := txt_length o
    simp only [txt, Wy.size, List.length_cons, List.length_append, List.length_nil, hb, ho]
    omega
theorem txt_num {g : Nat} (h : g ≤ 9) : (UInt8.ofNat (48 + g)).toNat = 48 + g := by
  rw [UInt8.toNat_ofNat']; omega
theorem pw_txt : ∀ (t : Wy) (f n m : Nat) (r : List UInt8), t.In n m → m ≤ 10 → t.size < f → pw f n (txt t ++ r) = some (t, r, m)
  | .leaf, 0, n, m, r, hi, hm, hf => by omega
  | .leaf, f + 1, n, m, r, hi, hm, hf => by
    simp only [Wy.In] at hi
    subst hi
    simp [txt, pw]
  | .node g b o, 0, n, m, r, hi, hm, hf => by omega
  | .node g b o, f + 1, n, m, r, hi, hm, hf => by
    obtain ⟨hb, ho⟩ := hi
    have eb := hb.size
    have eo := ho.size
    simp only [Wy.size] at hf
    have e1 := pw_txt b f n g (UInt8.ofNat (48 + g) :: (txt o ++ [41] ++ r)) hb (by omega) (by omega)
    have e2 := pw_txt o f (g + 1) m (41 :: r) ho hm (by omega)
    have hn := txt_num (g := g) (by omega)
    have e0 : txt (.node g b o) ++ r = 40 :: (txt b ++ (UInt8.ofNat (48 + g) :: (txt o ++ [41] ++ r))) := by simp [txt]
    rw [e0]
    simp only [pw]
    rw [if_neg (by decide), if_pos (by decide), e1]
    simp only [hd, List.head?_cons, Option.map_some, Option.getD_some, hn, List.tail_cons]
    rw [if_pos ⟨trivial, by omega⟩]
    rw [show txt o ++ [41] ++ r = txt o ++ 41 :: r by simp, e2]
    simp

/-- The best way for the run from f up to t. -/
def bestF (zs : List Int) : Nat → Nat → Nat → Wy
  | 0, _, _ => .leaf
  | d + 1, f, t => if t ≤ f then .leaf else .node (fstB zs f t) (bestF zs d f (fstB zs f t)) (bestF zs d (fstB zs f t + 1) t)
def bestW (zs : List Int) (f t : Nat) : Wy := bestF zs (t - f) f t
theorem fstB_in {zs : List Int} (h : ∀ z ∈ zs, 0 ≤ z ∧ z ≤ 50) {f t : Nat} (hft : f < t) : f ≤ fstB zs f t ∧ fstB zs f t < t := by
  unfold fstB
  by_cases h1 : t ≤ f + 1
  · rw [if_pos h1]; omega
  · rw [if_neg h1]
    obtain ⟨j, hj⟩ : ∃ j, t - f = j + 1 := ⟨t - f - 1, by omega⟩
    rw [hj]
    obtain ⟨-, i2, i3, -⟩ := scanB_is j fun k k1 k2 => (stepW_bd h (f := f) (t := t) k1 (by omega)).1
    omega
theorem bestF_fuel {zs : List Int} (h : ∀ z ∈ zs, 0 ≤ z ∧ z ≤ 50) : ∀ d f t, t - f ≤ d → bestF zs d f t = bestW zs f t
  | 0, f, t, hd => by
    unfold bestW; rw [show t - f = 0 by omega]
  | d + 1, f, t, hd => by
    unfold bestW
    cases hd' : t - f with
    | zero => simp [bestF, show t ≤ f by omega]
    | succ d' =>
      have hg := fstB_in h (show f < t by omega)
      simp only [bestF, if_neg (show ¬ t ≤ f by omega)]
      rw [bestF_fuel h d _ _ (by omega), bestF_fuel h d _ _ (by omega), bestF_fuel h d' _ _ (by omega), bestF_fuel h d' _ _ (by omega)]
  termination_by d => d
theorem bestW_leaf {zs : List Int} {f t : Nat} (h : t ≤ f) : bestW zs f t = .leaf := by
  unfold bestW; rw [show t - f = 0 by omega]; rfl
theorem bestW_node {zs : List Int} (h : ∀ z ∈ zs, 0 ≤ z ∧ z ≤ 50) {f t : Nat} (hft : f < t) : bestW zs f t = .node (fstB zs f t) (bestW zs f (fstB zs f t)) (bestW zs (fstB zs f t + 1) t) := by
  have hg := fstB_in h hft
  obtain ⟨d, hd⟩ : ∃ d, t - f = d + 1 := ⟨t - f - 1, by omega⟩
  rw [← bestF_fuel h (d + 1) f t (by omega)]
  simp only [bestF, if_neg (show ¬ t ≤ f by omega)]
  rw [bestF_fuel h d _ _ (by omega), bestF_fuel h d _ _ (by omega)]
theorem bestW_in {zs : List Int} (h : ∀ z ∈ zs, 0 ≤ z ∧ z ≤ 50) : ∀ d f t, t - f ≤ d → f ≤ t → (bestW zs f t).In f t
  | 0, f, t, hd, hft => by rw [bestW_leaf (by omega)]; show f = t; omega
  | d + 1, f, t, hd, hft => by
    by_cases h1 : t ≤ f
    · rw [bestW_leaf h1]; show f = t; omega
    · have hg := fstB_in h (show f < t by omega)
      rw [bestW_node h (by omega)]
      exact ⟨bestW_in h d _ _ (by omega) (by omega), bestW_in h d _ _ (by omega) (by omega)⟩
theorem bestW_size {zs : List Int} (h : ∀ z ∈ zs, 0 ≤ z ∧ z ≤ 50) {f t : Nat} (hft : f ≤ t) : (bestW zs f t).size = t - f := by
  have := (bestW_in h _ f t (Nat.le_refl _) hft).size
  omega
theorem bestW_cost {zs : List Int} (h : ∀ z ∈ zs, 0 ≤ z ∧ z ≤ 50) : ∀ d f t, t - f ≤ d → f ≤ t → (bestW zs f t).cost zs = opt zs f t
  | 0, f, t, hd, hft => by rw [bestW_leaf (by omega), opt_small (by omega)]; rfl
  | d + 1, f, t, hd, hft => by
    by_cases h1 : t ≤ f
    · rw [bestW_leaf h1, opt_small (by omega)]; rfl
    · have hg := fstB_in h (show f < t by omega)
      have s1 := bestW_size h (show f ≤ fstB zs f t by omega)
      have s2 := bestW_size h (show fstB zs f t + 1 ≤ t by omega)
      rw [bestW_node h (by omega)]
      simp only [Wy.cost]
      by_cases h2 : t ≤ f + 1
      · rw [if_pos (by omega), opt_small h2]
      · rw [if_neg (by omega), bestW_cost h d _ _ (by omega) (by omega), bestW_cost h d _ _ (by omega) (by omega), opt_eq (f := f) (t := t) (by omega)]
        obtain ⟨j, hj⟩ : ∃ j, t - f = j + 1 := ⟨t - f - 1, by omega⟩
        obtain ⟨i1, -, -, -⟩ := scanB_is j fun k k1 k2 => (stepW_bd h (f := f) (t := t) k1 (by omega)).1
        have e : fstB zs f t = (scanB (stepW zs f t) f (j + 1)).2 := by unfold fstB; rw [if_neg h2, hj]
        rw [hj, i1, ← e]; rfl
/-- The best way of guessing all the numbers, as text. -/
def bestT (zs : List Int) : List UInt8 := if priceB zs then txt (bestW zs 0 zs.length) else []
theorem bestT_length {zs : List Int} : (bestT zs).length ≤ 60 := by
  unfold bestT
  by_cases h : priceB zs = true
  · obtain ⟨h1, h2⟩ := priceB_yes h
    rw [if_pos h, txt_length, bestW_size h2 (Nat.zero_le _)]; omega
  · rw [if_neg h]; simp
theorem bestT_pos {zs : List Int} (h : priceB zs = true) : 0 < (bestT zs).length := by
  unfold bestT; rw [if_pos h, txt_length]; omega
theorem needI_best {zs : List Int} (h : priceB zs = true) : needI zs (bestT zs) = sureI zs := by
  obtain ⟨h1, h2⟩ := priceB_yes h
  have hi := bestW_in h2 _ 0 zs.length (Nat.le_refl _) (Nat.zero_le _)
  have e := pw_txt (bestW zs 0 zs.length) (txt (bestW zs 0 zs.length)).length 0 zs.length [] hi (by omega) (by rw [txt_length]; omega)
  rw [List.append_nil] at e
  unfold needI sureI
  rw [if_pos h, if_pos h]
  have ht : bestT zs = txt (bestW zs 0 zs.length) := by unfold bestT; rw [if_pos h]
  have hk : okW zs.length (txt (bestW zs 0 zs.length)) = some (bestW zs 0 zs.length) := by
    unfold okW; rw [e]; simp
  rw [ht, hk]
  exact bestW_cost h2 _ 0 zs.length (Nat.le_refl _) (Nat.zero_le _)
end Go.Proofs.Ytcgpfdknadijlaa
