/- What is known of each of the people, in plain words. -/
import Derived.Test.YtajelgheccfcoaaWaysP
namespace Go.Proofs.Ytajelgheccfcoaa
open Go.RowKit

/-- The ways as natural numbers. -/
def waysN (p : Int) (ps : List Sy) : List Nat := if sayB p ps then (List.range (2 ^ p.toNat)).filter (wayB p ps) else []
theorem waysI_N (p : Int) (ps : List Sy) : waysI p ps = (waysN p ps).map fun (k : Nat) => (k : Int) := by
  unfold waysI waysN waysL; split <;> rfl
theorem waysN_lt {p : Int} {ps : List Sy} : ∀ k ∈ waysN p ps, k < 2 ^ p.toNat := by
  intro k hk
  unfold waysN at hk
  split at hk
  · exact List.mem_range.1 (List.mem_filter.1 hk).1
  · cases hk
theorem waysN_say {p : Int} {ps : List Sy} (h : waysN p ps ≠ []) : 1 ≤ p ∧ p ≤ 5 := by
  unfold waysN at h
  split at h
  · rename_i hs; exact (sayB_yes hs).1
  · exact absurd rfl h
theorem waysN_32 {p : Int} {ps : List Sy} : ∀ k ∈ waysN p ps, k < 32 := by
  intro k hk
  have h1 := waysN_lt k hk
  have h2 := waysN_say (List.ne_nil_of_mem hk)
  exact Nat.lt_of_lt_of_le h1 (pow_le (by omega))
theorem length_waysN (p : Int) (ps : List Sy) : (waysN p ps).length ≤ 32 := by
  by_cases h : waysN p ps = []
  · rw [h]; simp
  · have h2 := waysN_say h
    have h3 : (waysN p ps).length ≤ 2 ^ p.toNat := by
      unfold waysN; split
      · exact Nat.le_trans (List.length_filter_le _ _) (by simp)
      · simp
    exact Nat.le_trans h3 (pow_le (by omega))

/-- Whether somebody is a knight in all ways (1), in none (0) or in some (2). -/
def knownAt (ks : List Nat) (i : Nat) : Int := if ks.all (·.testBit i) then 1 else if ks.any (·.testBit i) then 2 else 0
def knownL (ks : List Nat) (n : Nat) : List Int := (List.range n).map (knownAt ks)
def knownI (p : Int) (ks : List Nat) : List Int := if ks = [] then [] else knownL ks p.toNat
theorem knownL_succ (ks : List Nat) (n : Nat) : knownL ks (n + 1) = knownL ks n ++ [knownAt ks n] := by unfold knownL; rw [List.range_succ, List.map_append]; rfl
theorem length_knownL (ks : List Nat) (n : Nat) : (knownL ks n).length = n := by simp [knownL]

theorem length_knownI (p : Int) (ps : List Sy) : (knownI p (waysN p ps)).length ≤ 40 := by
  unfold knownI
  split
  · simp
  · rename_i h
    have := waysN_say h
    rw [length_knownL]; omega

/-- How many of the ways have a knight there. -/
def cntB (ks : List Nat) (i : Nat) : Nat := ks.countP (·.testBit i)
theorem cntB_snoc {ks : List Nat} {i j : Nat} (h : j < ks.length) : cntB (ks.take (j + 1)) i = cntB (ks.take j) i + ks[j] / 2 ^ i % 2 := by
  unfold cntB
  rw [List.take_add_one, List.getElem?_eq_getElem h, List.countP_append]
  congr 1
  show List.countP _ [ks[j]] = _
  rw [List.countP_singleton, Nat.testBit_eq_decide_div_mod_eq]
  have := Nat.mod_two_eq_zero_or_one (ks[j] / 2 ^ i)
  split
  · rename_i h1; rw [decide_eq_true_eq] at h1; exact h1.symm
  · rename_i h1; rw [decide_eq_true_eq] at h1; omega
theorem cntB_le (ks : List Nat) (i : Nat) : cntB ks i ≤ ks.length := List.countP_le_length
theorem knownAt_cnt {ks : List Nat} (h : ks ≠ []) (i : Nat) : knownAt ks i = if cntB ks i = 0 then 0 else if cntB ks i = ks.length then 1 else 2 := by
  unfold knownAt cntB
  have h1 : ks.all (·.testBit i) = true ↔ ks.countP (·.testBit i) = ks.length := by rw [List.countP_eq_length, List.all_eq_true]
  have h2 : ks.any (·.testBit i) = true ↔ ks.countP (·.testBit i) ≠ 0 := by
    rw [List.any_eq_true, Ne, List.countP_eq_zero]
    constructor
    · rintro ⟨x, hx, hy⟩ hn; exact hn x hx hy
    · intro hn
      refine Classical.byContradiction fun h3 => hn fun x hx hy => h3 ⟨x, hx, hy⟩
  have h0 : 0 < ks.length := List.length_pos_iff.2 h
  generalize ks.countP (·.testBit i) = c at *
  by_cases e1 : c = ks.length
  · rw [if_pos (h1.2 e1), if_neg (by omega), if_pos e1]
  · rw [if_neg (fun e => e1 (h1.1 e))]
    by_cases e2 : c = 0
    · rw [if_neg (fun e => h2.1 e e2), if_pos e2]
    · rw [if_pos (h2.2 e2), if_neg e2, if_neg e1]

/-- All and some, in bits. -/
def allN (k0 : Nat) (ks : List Nat) : Nat := ks.foldl (· &&& ·) k0
def someN (ks : List Nat) : Nat := ks.foldl (· ||| ·) 0
theorem and_bits : ∀ a b : Fin 32, bits BinOp.and IntKind.i64 (a.val : Int) (b.val : Int) = ((a.val &&& b.val : Nat) : Int) := by decide +kernel
theorem or_bits : ∀ a b : Fin 32, bits BinOp.or IntKind.i64 (a.val : Int) (b.val : Int) = ((a.val ||| b.val : Nat) : Int) := by decide +kernel
theorem allN_snoc {k0 : Nat} {ks : List Nat} {j : Nat} (h : j < ks.length) : allN k0 (ks.take (j + 1)) = allN k0 (ks.take j) &&& ks[j] := by
  unfold allN; rw [List.take_add_one, List.getElem?_eq_getElem h, List.foldl_append]; rfl
theorem someN_snoc {ks : List Nat} {j : Nat} (h : j < ks.length) : someN (ks.take (j + 1)) = someN (ks.take j) ||| ks[j] := by
  unfold someN; rw [List.take_add_one, List.getElem?_eq_getElem h, List.foldl_append]; rfl
theorem allN_lt {k0 : Nat} (h : k0 < 32) (ks : List Nat) : allN k0 ks < 32 := by
  unfold allN
  induction ks generalizing k0 with
  | nil => exact h
  | cons a l ih => exact ih (Nat.lt_of_le_of_lt Nat.and_le_left h)
theorem or_lt {a b : Nat} (h : a < 32) (h' : b < 32) : a ||| b < 32 := Nat.or_lt_two_pow (n := 5) h h'
theorem someN_lt {ks : List Nat} (h : ∀ k ∈ ks, k < 32) : someN ks < 32 := by
  have : ∀ (l : List Nat) (a : Nat), a < 32 → (∀ k ∈ l, k < 32) → l.foldl (· ||| ·) a < 32 := by
    intro l
    induction l with
    | nil => intro a h _; exact h
    | cons b l ih => intro a h h2; exact ih _ (or_lt h (h2 b (by simp))) fun k hk => h2 k (by simp [hk])
  exact this ks 0 (by omega) h
theorem allN_bit (k0 : Nat) (ks : List Nat) (i : Nat) : (allN k0 ks).testBit i = (k0.testBit i && ks.all (·.testBit i)) := by
  unfold allN
  induction ks generalizing k0 with
  | nil => simp
  | cons a l ih => rw [List.foldl_cons, ih, Nat.testBit_and, List.all_cons, Bool.and_assoc]
theorem someN_bit (ks : List Nat) (i : Nat) : (someN ks).testBit i = ks.any (·.testBit i) := by
  have : ∀ (l : List Nat) (a : Nat), (l.foldl (· ||| ·) a).testBit i = (a.testBit i || l.any (·.testBit i)) := by
    intro l
    induction l with
    | nil => intro a; simp
    | cons b l ih => intro a; rw [List.foldl_cons, ih, Nat.testBit_or, List.any_cons, Bool.or_assoc]
  unfold someN
  rw [this, Nat.zero_testBit, Bool.false_or]
theorem knownAt_bits {ks : List Nat} (h : 0 < ks.length) (i : Nat) : knownAt ks i = if allN ks[0] ks / 2 ^ i % 2 = 1 then 1 else if someN ks / 2 ^ i % 2 = 1 then 2 else 0 := by
  have h1 : allN ks[0] ks / 2 ^ i % 2 = 1 ↔ ks.all (·.testBit i) = true := by
    rw [← decide_eq_true_iff (p := allN ks[0] ks / 2 ^ i % 2 = 1), ← Nat.testBit_eq_decide_div_mod_eq, allN_bit, Bool.and_eq_true]
    exact ⟨fun h => h.2, fun h2 => ⟨List.all_eq_true.1 h2 _ (List.getElem_mem h), h2⟩⟩
  have h2 : someN ks / 2 ^ i % 2 = 1 ↔ ks.any (·.testBit i) = true := by
    rw [← decide_eq_true_iff (p := someN ks / 2 ^ i % 2 = 1), ← Nat.testBit_eq_decide_div_mod_eq, someN_bit]
  unfold knownAt
  simp only [h1, h2]
end Go.Proofs.Ytajelgheccfcoaa
