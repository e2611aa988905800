/- All ways, in plain words. -/
import Derived.Test.YtajelgheccfcoaaSayOk
namespace Go.Proofs.Ytajelgheccfcoaa
open Go.RowKit

def bitB (k : Nat) (b : Int) : Bool := k / 2 ^ b.toNat % 2 == 1
/-- All of the sayings may be said where k are the knights. -/
def wayB (p : Int) (ps : List Sy) (k : Nat) : Bool := ps.all fun q => soB p q.2 k == bitB k q.1
def waysL (p : Int) (ps : List Sy) (n : Nat) : List Int := ((List.range n).filter (wayB p ps)).map fun (k : Nat) => (k : Int)
def waysI (p : Int) (ps : List Sy) : List Int := if sayB p ps then waysL p ps (2 ^ p.toNat) else []

theorem sayB_yes {p : Int} {ps : List Sy} (h : sayB p ps = true) : (1 ≤ p ∧ p ≤ 5) ∧ ps.length ≤ 6 ∧ ∀ q ∈ ps, okB p q = true := by
  unfold sayB at h
  rw [Bool.and_eq_true, Bool.and_eq_true, decide_eq_true_eq, List.all_eq_true] at h
  exact ⟨inB_in h.1, h.2⟩
theorem okB_yes {p : Int} {q : Sy} (h : okB p q = true) : ∃ a, saidOf p q.2 = some a ∧ 0 ≤ q.1 ∧ q.1 ≤ p - 1 ∧ q.2.length ≤ 40 := by
  unfold okB at h
  rw [Bool.and_eq_true] at h
  have h1 := inB_in h.1
  have h2 := h.2
  unfold textB at h2
  obtain ⟨a, ha⟩ := Option.isSome_iff_exists.1 h2
  exact ⟨a, ha, h1.1, h1.2, (saidOf_range ha).2.2⟩
theorem pow_le {p : Nat} (h : p ≤ 5) : 2 ^ p ≤ 32 := by
  calc 2 ^ p ≤ 2 ^ 5 := Nat.pow_le_pow_right (by omega) h
    _ = 32 := by decide
theorem soB_val {p : Nat} {l : List UInt8} {a : Say} (h : saidOf p l = some a) {k : Nat} (hk : k < 2 ^ p) : soB p l k = a.val k := by
  unfold soB
  rw [h]
  have : inB 0 ((2 ^ p - 1 : Nat) : Int) (k : Int) = true := inB_true (by omega) (by omega)
  simp only [Int.toNat_natCast, this, Bool.true_and]
theorem wayB_snoc {p : Int} {ps : List Sy} {k j : Nat} (h : j < ps.length) : wayB p (ps.take (j + 1)) k = (wayB p (ps.take j) k && (soB p (ps.getD j noSy).2 k == bitB k (ps.getD j noSy).1)) := by
  unfold wayB; rw [takeS_snoc ps j h, List.all_append, List.all_cons, List.all_nil, Bool.and_true]
theorem waysL_succ {p : Int} {ps : List Sy} (n : Nat) : waysL p ps (n + 1) = waysL p ps n ++ if wayB p ps n then [(n : Int)] else [] := by
  unfold waysL; rw [List.range_succ, List.filter_append, List.map_append]
  congr 1
  by_cases h : wayB p ps n = true
  · rw [if_pos h, List.filter_cons, if_pos h]; rfl
  · rw [if_neg h, List.filter_cons, if_neg h]; rfl
theorem length_waysL {p : Int} {ps : List Sy} (n : Nat) : (waysL p ps n).length ≤ n := by
  unfold waysL; rw [List.length_map]; exact Nat.le_trans (List.length_filter_le _ _) (by simp)
theorem shift_bit : ∀ (k : Fin 32) (b : Fin 5), bits BinOp.and IntKind.i64 ((k.val : Int) / 2 ^ b.val) 1 = ((k.val / 2 ^ b.val % 2 : Nat) : Int) := by decide +kernel
theorem shl_wrap : ∀ p : Fin 6, IntKind.i64.wrap ((2 : Int) ^ p.val) = ((2 ^ p.val : Nat) : Int) := by decide +kernel
end Go.Proofs.Ytajelgheccfcoaa
