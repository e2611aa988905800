/- What is found out and what is known, in plain words. -/
import Derived.Test.YtajelgheccfcoaaKnownP
namespace Go.Proofs.Ytajelgheccfcoaa
open Go.RowKit

def sumK (f : Nat → Int) : Nat → Int
  | 0 => 0
  | n + 1 => sumK f n + f n * 2 ^ n
theorem knownAt_bd (ks : List Nat) (i : Nat) : 0 ≤ knownAt ks i ∧ knownAt ks i ≤ 2 := by unfold knownAt; split; omega; split <;> omega
theorem shl_known : ∀ (z : Fin 3) (k : Fin 5), IntKind.i64.wrap ((z.val : Int) * 2 ^ k.val) = (z.val : Int) * 2 ^ k.val ∧ (0 : Int) ≤ (z.val : Int) * 2 ^ k.val ∧ (z.val : Int) * 2 ^ k.val ≤ 32 := by decide +kernel
theorem knownAt_one (k i : Nat) : knownAt [k] i = if k.testBit i then 1 else 0 := by
  unfold knownAt
  rw [List.all_cons, List.all_nil, Bool.and_true, List.any_cons, List.any_nil, Bool.or_false]
  split
  · rfl
  · rfl
theorem sum_one (k n : Nat) : sumK (knownAt [k]) n = ((k % 2 ^ n : Nat) : Int) := by
  induction n with
  | zero => simp [sumK, Nat.mod_one]
  | succ n ih =>
    rw [sumK, ih, knownAt_one, Nat.testBit_eq_decide_div_mod_eq, Nat.mod_pow_succ]
    have := Nat.mod_two_eq_zero_or_one (k / 2 ^ n)
    by_cases h : k / 2 ^ n % 2 = 1
    · rw [h]; simp
    · have h0 : k / 2 ^ n % 2 = 0 := by omega
      rw [h0]; simp
theorem knownL_get (ks : List Nat) (n i : Nat) (h : i < n) : (knownL ks n).getD i 0 = knownAt ks i := by
  unfold knownL; simp [List.getD, h]
theorem waysN_nodup (p : Int) (ps : List Sy) : (waysN p ps).Nodup := by
  unfold waysN; split
  · exact List.Pairwise.filter _ List.nodup_range
  · exact List.nodup_nil
theorem two_differ {p k k' : Nat} {l : List Nat} (hk : k < 2 ^ p) (hk' : k' < 2 ^ p) (hne : k ≠ k') (hm : k ∈ l) (hm' : k' ∈ l) : (2 : Int) ∈ knownL l p := by
  have : ∃ i, i < p ∧ k.testBit i ≠ k'.testBit i := by
    refine Classical.byContradiction fun hn => hne ?_
    refine Nat.eq_of_testBit_eq fun i => ?_
    by_cases hi : i < p
    · refine Classical.byContradiction fun h => hn ⟨i, hi, h⟩
    · rw [Nat.testBit_lt_two_pow (Nat.lt_of_lt_of_le hk (Nat.pow_le_pow_right (by omega) (by omega))), Nat.testBit_lt_two_pow (Nat.lt_of_lt_of_le hk' (Nat.pow_le_pow_right (by omega) (by omega)))]
  obtain ⟨i, hi, hd⟩ := this
  unfold knownL
  refine List.mem_map.2 ⟨i, List.mem_range.2 hi, ?_⟩
  have h1 : l.all (·.testBit i) = false := by
    rw [List.all_eq_false]
    cases hb : k.testBit i with
    | false => exact ⟨k, hm, by rw [hb]; decide⟩
    | true => exact ⟨k', hm', by rw [hb] at hd; cases hb' : k'.testBit i with
      | false => decide
      | true => rw [hb'] at hd; exact absurd rfl hd⟩
  have h2 : l.any (·.testBit i) = true := by
    rw [List.any_eq_true]
    cases hb : k.testBit i with
    | true => exact ⟨k, hm, hb⟩
    | false => exact ⟨k', hm', by rw [hb] at hd; cases hb' : k'.testBit i with
      | true => rfl
      | false => rw [hb'] at hd; exact absurd rfl hd⟩
  unfold knownAt
  rw [h1, h2]; rfl

/-- One way alone: it is told exactly if something is known, and of nobody only in some ways; and it is the sum of what is known. -/
theorem found_known (p : Int) (ps : List Sy) : ((waysN p ps).length = 1 ↔ 0 < (knownI p (waysN p ps)).length ∧ ¬ (2 : Int) ∈ knownI p (waysN p ps)) ∧
    ∀ k, waysN p ps = [k] → sumK (knownAt [k]) p.toNat = (k : Int) := by
  have hlt := waysN_lt (p := p) (ps := ps)
  have hsay := waysN_say (p := p) (ps := ps)
  have hnd := waysN_nodup p ps
  generalize waysN p ps = ks at *
  constructor
  · match ks with
    | [] => simp [knownI]
    | [k] =>
      have hp := hsay (by simp)
      constructor
      · intro _
        unfold knownI
        rw [if_neg (by simp)]
        refine ⟨by rw [length_knownL]; omega, fun hm => ?_⟩
        unfold knownL at hm
        obtain ⟨i, -, hi⟩ := List.mem_map.1 hm
        rw [knownAt_one] at hi
        split at hi <;> omega
      · intro _; rfl
    | k :: k' :: l =>
      have hp := hsay (by simp)
      constructor
      · intro h; simp at h
      · rintro ⟨-, h⟩
        exfalso
        apply h
        unfold knownI
        rw [if_neg (by simp)]
        refine two_differ (hlt k (by simp)) (hlt k' (by simp)) ?_ (by simp) (by simp)
        rintro rfl
        simp at hnd
  · rintro k rfl
    rw [sum_one, Nat.mod_eq_of_lt (hlt k (by simp))]

theorem shl_at (ks : List Nat) (j : Nat) (hj : j < 5) : IntKind.i64.wrap (knownAt ks j * 2 ^ j) = knownAt ks j * 2 ^ j ∧ 0 ≤ knownAt ks j * 2 ^ j ∧ knownAt ks j * 2 ^ j ≤ 32 := by
  obtain ⟨h0, h2⟩ := knownAt_bd ks j
  obtain ⟨z, hz⟩ := Int.eq_ofNat_of_zero_le h0
  rw [hz] at h2 ⊢
  exact shl_known ⟨z, by omega⟩ ⟨j, hj⟩
theorem sumK_bd (ks : List Nat) : ∀ j, j ≤ 5 → 0 ≤ sumK (knownAt ks) j ∧ sumK (knownAt ks) j ≤ 32 * j
  | 0, _ => by simp [sumK]
  | j + 1, h => by
    have := sumK_bd ks j (by omega)
    have := (shl_at ks j (by omega)).2
    rw [sumK]; omega
theorem knownI_get (p : Int) (ks : List Nat) (j : Nat) (h : j < (knownI p ks).length) : (knownI p ks).getD j 0 = knownAt ks j := by
  unfold knownI at h ⊢
  split at h
  · simp at h
  · rename_i hne
    rw [if_neg hne]
    rw [length_knownL] at h
    exact knownL_get ks _ j h
theorem length_knownI5 (p : Int) (ps : List Sy) : (knownI p (waysN p ps)).length ≤ 5 := by
  unfold knownI
  split
  · simp
  · rename_i h
    have := waysN_say h
    rw [length_knownL]; omega
end Go.Proofs.Ytajelgheccfcoaa
