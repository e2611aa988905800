/- How many orders are won: the plain law, tried in the kernel. -/
import Derived.Test.YtdpijiccolbljaaOrdP
namespace Go.Proofs.Ytdpijiccolbljaa
open Go.RowKit
def cntT (T : Nat) : List (List Nat) → Nat
  | [] => 0
  | p :: l => Nat.add (cond (Nat.ble (long p) T) 1 0) (cntT T l)
theorem cntT_eq (T : Nat) : ∀ l : List (List Nat), cntL (T : Int) l = cntT T l
  | [] => rfl
  | p :: l => by
    show winN (T : Int) p + cntL (T : Int) l = cond (Nat.ble (long p) T) 1 0 + cntT T l
    rw [cntT_eq T l]
    unfold winN
    by_cases h : long p ≤ T
    · rw [if_pos (by omega), Nat.ble_eq_true_of_le h]; rfl
    · have e : Nat.ble (long p) T = false := by rw [Bool.eq_false_iff]; exact fun h2 => h (Nat.le_of_ble_eq_true h2)
      rw [if_neg (by omega), e]; rfl
def factN : Nat → Nat
  | 0 => 1
  | k + 1 => Nat.mul (factN k) (k + 1)
/-- all divided by the j numbers behind t, added. -/
def lostF (all t : Nat) : Nat → Nat
  | 0 => 0
  | j + 1 => Nat.add (lostF all t j) (Nat.div all (t + 1 + j))
def lawT (n t : Nat) : Bool :=
  let c := cntT t (permsF n n [])
  (Nat.blt t n || Nat.beq c (factN n)) && ((!Nat.beq t 1 || Nat.beq c 1) && (Nat.blt (2 * t) n || Nat.beq (Nat.add c (lostF (factN n) t (n - t))) (factN n)))
theorem law_6 : allN (fun n => allN (fun t => lawT (n + 1) t) 8) 6 = true := by decide +kernel
theorem fact_bd : allN (fun n => Nat.ble (factN n) 720 && allN (fun t => allN (fun j => Nat.ble (lostF (factN n) t j) 5000) 8) 8) 7 = true := by decide +kernel
theorem law_out {n t : Nat} (h1 : 1 ≤ n) (h6 : n ≤ 6) (ht : t ≤ 7) : (t < n ∨ cntL (t : Int) (permsF n n []) = factN n) ∧ (t ≠ 1 ∨ cntL (t : Int) (permsF n n []) = 1) ∧ (2 * t < n ∨ cntL (t : Int) (permsF n n []) + lostF (factN n) t (n - t) = factN n) := by
  obtain ⟨k, rfl⟩ : ∃ k, n = k + 1 := ⟨n - 1, by omega⟩
  have h := allN_out (allN_out law_6 k (by omega)) t (by omega)
  rw [cntT_eq]
  unfold lawT at h
  simp only [Bool.and_eq_true, Bool.or_eq_true, Bool.not_eq_true', Nat.blt_eq] at h
  obtain ⟨a1, a2, a3⟩ := h
  refine ⟨a1.imp id Nat.eq_of_beq_eq_true, a2.imp (fun h e => ?_) Nat.eq_of_beq_eq_true, a3.imp id Nat.eq_of_beq_eq_true⟩
  rw [e] at h; cases h
theorem fact_le {n : Nat} (h : n ≤ 6) : factN n ≤ 720 := by
  have := allN_out fact_bd n (by omega)
  rw [Bool.and_eq_true] at this
  exact Nat.le_of_ble_eq_true this.1
theorem lost_le {n t j : Nat} (h : n ≤ 6) (ht : t ≤ 7) (hj : j ≤ 7) : lostF (factN n) t j ≤ 5000 := by
  have := allN_out fact_bd n (by omega)
  rw [Bool.and_eq_true] at this
  exact Nat.le_of_ble_eq_true (allN_out (allN_out this.2 t (by omega)) j (by omega))
end Go.Proofs.Ytdpijiccolbljaa
