/- Each number where it is told by what lies there: the plain words. -/
import Derived.Test.YtdpijiccolbljaaCircP
namespace Go.Proofs.Ytdpijiccolbljaa
open Go.RowKit

theorem eqN_iff : ∀ a b : List Nat, eqN a b = true ↔ a = b
  | [], [] => by simp [eqN]
  | [], _ :: _ => by simp [eqN]
  | _ :: _, [] => by simp [eqN]
  | a :: l, b :: m => by
    have ih := eqN_iff l m
    rw [eqN]
    cases h : Nat.beq a b
    · have : ¬ a = b := fun e => by rw [e, Nat.beq_refl] at h; cases h
      simp [this]
    · simp [Nat.eq_of_beq_eq_true h, ih]

/-- The first k numbers laid where they are told. -/
def backF (ns : List Nat) : Nat → List Nat
  | 0 => List.replicate ns.length 0
  | k + 1 => (backF ns k).set (nx ns k) k
theorem length_backF (ns : List Nat) : ∀ k, (backF ns k).length = ns.length
  | 0 => by simp [backF]
  | k + 1 => by rw [backF, List.length_set, length_backF ns k]
theorem invG_succ (g : Nat → Nat) (k i : Nat) : invG g (k + 1) i = if g k = i then k else invG g k i := by
  show cond (Nat.beq (g k) i) k (invG g k i) = _
  by_cases h : g k = i
  · rw [if_pos h, h, Nat.beq_refl]; rfl
  · have e : Nat.beq (g k) i = false := by rw [Bool.eq_false_iff]; exact fun h2 => h (Nat.eq_of_beq_eq_true h2)
    rw [if_neg h, e]; rfl
theorem nx_backF {ns : List Nat} (h : Perm7 ns) : ∀ k, k ≤ ns.length → nx (backF ns k) = invG (nx ns) k
  | 0, _ => by
    funext i
    rw [nx_getD]
    show (List.replicate ns.length 0).getD i 0 = 0
    simp only [List.getD, List.getElem?_replicate]
    split <;> rfl
  | k + 1, hk => by
    funext i
    rw [invG_succ, backF, nx_set _ _ _ _ (by rw [length_backF]; exact h.nx_lt (by omega)), nx_backF h k (by omega)]
def back (ns : List Nat) : List Nat := backF ns ns.length
theorem length_back (ns : List Nat) : (back ns).length = ns.length := length_backF _ _
theorem nx_back {ns : List Nat} (h : Perm7 ns) : nx (back ns) = invG (nx ns) ns.length := nx_backF h _ (Nat.le_refl _)
theorem back_perm {ns : List Nat} (h : Perm7 ns) : Perm7 (back ns) := by
  obtain ⟨_, h2⟩ := cond_and h.ofC
  obtain ⟨_, h3⟩ := cond_and h2
  have hB : boxB (iz (back ns)) = true := by
    refine boxB_in (by rw [length_iz, length_back]; exact h.lo) (by rw [length_iz, length_back]; exact h.hi) fun i hi => ?_
    rw [length_iz, length_back] at hi
    refine mem_iz.2 (mem_nx.2 ⟨nx ns i, by rw [length_back]; exact h.nx_lt hi, ?_⟩)
    rw [nx_back h]
    exact Nat.eq_of_beq_eq_true (allN_out h3 i hi)
  obtain ⟨ms, e, hm⟩ := boxB_perm hB
  have : back ns = ms := by
    have := congrArg nz e
    rwa [nz_iz, nz_iz] at this
  rw [this]; exact hm
theorem back_circ {ns : List Nat} (h : Perm7 ns) : circG (nx (back ns)) (back ns).length = circG (nx ns) ns.length := by
  obtain ⟨_, h2⟩ := cond_and h.ofC
  obtain ⟨h3, _⟩ := cond_and h2
  rw [length_back, nx_back h]
  exact (eqN_iff _ _).1 h3
end Go.Proofs.Ytdpijiccolbljaa
