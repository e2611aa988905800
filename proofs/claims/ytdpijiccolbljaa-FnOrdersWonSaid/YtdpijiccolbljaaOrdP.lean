/- All orders, one behind the other: the plain words. -/
import Derived.Test.YtdpijiccolbljaaFindS
namespace Go.Proofs.Ytdpijiccolbljaa
open Go.RowKit

/-- All orders of n numbers that begin with pre and go on with f more. -/
def permsF (n : Nat) : Nat → List Nat → List (List Nat)
  | 0, pre => [pre]
  | f + 1, pre => (List.range n).flatMap fun k => if hasN k pre then [] else permsF n f (pre ++ [k])
def partF (n f : Nat) (pre : List Nat) (k : Nat) : List (List Nat) := (List.range k).flatMap fun k => if hasN k pre then [] else permsF n f (pre ++ [k])
theorem partF_succ (n f : Nat) (pre : List Nat) (k : Nat) : partF n f pre (k + 1) = partF n f pre k ++ if hasN k pre then [] else permsF n f (pre ++ [k]) := by
  unfold partF; rw [List.range_succ, List.flatMap_append]; simp
theorem partF_all (n f : Nat) (pre : List Nat) : partF n f pre n = permsF n (f + 1) pre := rfl
/-- In how many of some orders all find theirs with t tries. -/
def winN (t : Int) (p : List Nat) : Nat := if (long p : Int) ≤ t then 1 else 0
def cntL (t : Int) : List (List Nat) → Nat
  | [] => 0
  | p :: l => winN t p + cntL t l
theorem cntL_append (t : Int) : ∀ a b : List (List Nat), cntL t (a ++ b) = cntL t a + cntL t b
  | [], b => by simp [cntL]
  | p :: a, b => by
    show winN t p + cntL t (a ++ b) = winN t p + cntL t a + cntL t b
    rw [cntL_append t a b]; omega
theorem cntL_part (t : Int) (n f : Nat) (pre : List Nat) (k : Nat) : cntL t (partF n f pre (k + 1)) = cntL t (partF n f pre k) + if hasN k pre then 0 else cntL t (permsF n f (pre ++ [k])) := by
  rw [partF_succ, cntL_append]
  split <;> rfl
theorem winN_le (t : Int) (p : List Nat) : winN t p ≤ 1 := by unfold winN; split <;> omega
theorem cntL_bd (t : Int) (n : Nat) (hn : n ≤ 8) : ∀ (f : Nat) (pre : List Nat), cntL t (permsF n f pre) ≤ 8 ^ f
  | 0, pre => by
    show winN t pre + 0 ≤ 1
    have := winN_le t pre
    omega
  | f + 1, pre => by
    have hk : ∀ k, cntL t (partF n f pre k) ≤ k * 8 ^ f := fun k => by
      induction k with
      | zero => simp [partF, cntL]
      | succ k ih =>
        rw [cntL_part]
        have := cntL_bd t n hn f (pre ++ [k])
        have e : (k + 1) * 8 ^ f = k * 8 ^ f + 8 ^ f := by rw [Nat.add_mul, Nat.one_mul]
        split <;> omega
    have h1 := hk n
    rw [partF_all] at h1
    have h2 : n * 8 ^ f ≤ 8 * 8 ^ f := Nat.mul_le_mul_right _ hn
    have e : 8 ^ (f + 1) = 8 * 8 ^ f := Nat.pow_succ'
    omega
theorem cntL_part_bd (t : Int) (n : Nat) (hn : n ≤ 8) (f : Nat) (pre : List Nat) : ∀ k, cntL t (partF n f pre k) ≤ k * 8 ^ f
  | 0 => by simp [partF, cntL]
  | k + 1 => by
    rw [cntL_part]
    have := cntL_bd t n hn f (pre ++ [k])
    have ih := cntL_part_bd t n hn f pre k
    have e : (k + 1) * 8 ^ f = k * 8 ^ f + 8 ^ f := by rw [Nat.add_mul, Nat.one_mul]
    split <;> omega
/-- Numbers below n without doubles. -/
def Pre (n : Nat) (pre : List Nat) : Prop := pre.Nodup ∧ ∀ x ∈ pre, x < n
theorem pre_snoc {n : Nat} {pre : List Nat} {k : Nat} (h : Pre n pre) (hk : k < n) (hno : hasN k pre = false) : Pre n (pre ++ [k]) := by
  refine ⟨?_, fun x hx => ?_⟩
  · rw [List.nodup_append]
    refine ⟨h.1, by simp, fun a ha b hb => ?_⟩
    rw [List.mem_singleton] at hb
    subst hb
    intro e
    subst e
    rw [← hasN_iff, hno] at ha; cases ha
  · rcases List.mem_append.1 hx with hx | hx
    · exact h.2 x hx
    · rw [List.mem_singleton] at hx; subst hx; exact hk
theorem mem_permsF {n : Nat} : ∀ (f : Nat) (pre p : List Nat), Pre n pre → p ∈ permsF n f pre → Pre n p ∧ p.length = pre.length + f
  | 0, pre, p, h, hp => by
    rw [List.mem_singleton.1 hp]
    exact ⟨h, rfl⟩
  | f + 1, pre, p, h, hp => by
    obtain ⟨k, hk, hp⟩ := List.mem_flatMap.1 hp
    have hk' := List.mem_range.1 hk
    cases hh : hasN k pre
    · rw [hh] at hp
      obtain ⟨h1, h2⟩ := mem_permsF f (pre ++ [k]) p (pre_snoc h hk' hh) (by simpa using hp)
      exact ⟨h1, by rw [h2]; simp; omega⟩
    · rw [hh] at hp; simp at hp
theorem pre_nil (n : Nat) : Pre n [] := ⟨List.nodup_nil, by simp⟩
theorem permsF_perm {n : Nat} (h1 : 1 ≤ n) (h7 : n ≤ 7) {p : List Nat} (hp : p ∈ permsF n n []) : Perm7 p ∧ p.length = n := by
  obtain ⟨h2, h3⟩ := mem_permsF n [] p (pre_nil n) hp
  have hl : p.length = n := by simpa using h3
  exact ⟨⟨by omega, by omega, h2.1, fun x hx => by rw [hl]; exact h2.2 x hx⟩, hl⟩

/-! The next order, as the reference finds it. -/
def findK (os : List Nat) : Nat → Option Nat
  | 0 => none
  | k + 1 => if nx os (k + 1) < nx os k then findK os k else some k
def findJ (os : List Nat) (k : Nat) : Nat → Nat
  | 0 => 0
  | j + 1 => if nx os (j + 1) < nx os k then findJ os k j else j + 1
def swap (os : List Nat) (k j : Nat) : List Nat := (os.set k (nx os j)).set j (nx os k)
def revB (os : List Nat) (k : Nat) : List Nat := os.take (k + 1) ++ (os.drop (k + 1)).reverse
def nextN (os : List Nat) : Option (List Nat) := match findK os (os.length - 1) with
  | none => none
  | some k => some (revB (swap os k (findJ os k (os.length - 1))) k)
def chainOk : List (List Nat) → Bool
  | [] => true
  | x :: l => (match l, nextN x with
    | [], none => true
    | y :: _, some z => eqN y z
    | _, _ => false) && chainOk l
def ordB (n t : Int) : Bool := inB 1 7 n && inB 0 7 t
def ordI (n t : Int) : Int := bif ordB n t then (cntL t (permsF n.toNat n.toNat []) : Int) else -1
end Go.Proofs.Ytdpijiccolbljaa
