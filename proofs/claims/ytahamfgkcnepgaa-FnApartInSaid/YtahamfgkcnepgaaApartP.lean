/- Ships apart: the plain law, tried at all boards. -/
import Derived.Test.YtahamfgkcnepgaaApart
import Derived.Test.YtahamfgkcnepgaaDiagP
namespace Go.Proofs.Ytahamfgkcnepgaa
open Go.RowKit

def apartC (r c l : Nat) : Bool := let n := (apartL l (placesL r c l r)).2
  Nat.ble (n * l) (r * c) && (List.range l).all fun k => decide ((n : Int) ≤ sumR (diagL l k c r))
theorem apart_all : ∀ r c l : Fin 7, apartC r.val c.val l.val = true := by decide +kernel

theorem apart_law {rows cols long : Int} (h : placesB rows cols long = true) : 0 ≤ apartI rows cols long ∧ apartI rows cols long ≤ 72 ∧ apartI rows cols long * long ≤ rows * cols ∧ ∀ k : Nat, (k : Int) < long → apartI rows cols long ≤ shotsIn rows cols (diagI rows cols long k) := by
  obtain ⟨h1, h2, h3⟩ := placesB_yes h
  have hlen := length_placesI rows cols long
  obtain ⟨R, rfl⟩ := Int.eq_ofNat_of_zero_le (a := rows) (by omega)
  obtain ⟨C, rfl⟩ := Int.eq_ofNat_of_zero_le (a := cols) (by omega)
  obtain ⟨L, rfl⟩ := Int.eq_ofNat_of_zero_le (a := long) (by omega)
  have e : apartI R C L = ((apartL L (placesI R C L)).2 : Int) := by unfold apartI; rw [if_pos h]; rfl
  have e2 : placesI R C L = placesL R C L R := by unfold placesI; rw [if_pos h]; rfl
  have hb := (apartL_bd L (placesI R C L) _ (Nat.le_refl _)).2
  rw [List.take_length] at hb
  have hc := apart_all ⟨R, by omega⟩ ⟨C, by omega⟩ ⟨L, by omega⟩
  unfold apartC at hc
  simp only [Bool.and_eq_true, List.all_eq_true, List.mem_range, decide_eq_true_eq] at hc
  obtain ⟨c1, c2⟩ := hc
  have c1 := Nat.le_of_ble_eq_true c1
  rw [← e2] at c1 c2
  rw [e]
  refine ⟨by omega, by omega, by exact_mod_cast c1, fun k hk => ?_⟩
  have hk' := c2 k (by omega)
  have hbk : diagB R C L k = true := by
    simp only [diagB, inB, Bool.and_eq_true, decide_eq_true_eq]
    omega
  unfold shotsIn
  rw [shotsB_diag hbk, if_pos rfl]
  unfold diagI
  rw [if_pos hbk]
  exact hk'
end Go.Proofs.Ytahamfgkcnepgaa
