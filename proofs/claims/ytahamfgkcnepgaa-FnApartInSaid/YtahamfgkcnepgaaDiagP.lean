/- Diagonals: plain laws. -/
import Derived.Test.YtahamfgkcnepgaaStill
namespace Go.Proofs.Ytahamfgkcnepgaa
open Go.RowKit

theorem diag_line : ∀ L : Fin 7, ∀ m : Fin 6, ∀ s : Fin 12, m.val < L.val → sumI ((List.range L.val).map fun (k : Nat) => if (((s.val : Int) + (k : Int)) % (L.val : Int)) = (m.val : Int) then 1 else 0) = 1 := by decide +kernel

theorem shotsB_diag {rows cols long rem : Int} (h : diagB rows cols long rem = true) : shotsB rows cols (diagI rows cols long rem) = true := by
  obtain ⟨h1, h2, h3, h4⟩ := diagB_yes h
  unfold diagI
  rw [if_pos h]
  simp only [shotsB, rowOk, inB, allB, Bool.and_eq_true, decide_eq_true_eq, List.all_eq_true]
  refine ⟨h1, h2, by rw [length_diagL]; omega, fun zs hz => ?_⟩
  unfold diagL at hz
  obtain ⟨i, _, rfl⟩ := List.mem_map.1 hz
  refine ⟨by rw [length_diagRow]; omega, fun z hz => ?_⟩
  obtain ⟨j, _, rfl⟩ := List.mem_map.1 hz
  unfold diagX; split <;> omega

theorem hitAt_diag {long rem : Int} {R C r c : Nat} (hr : r < R) (hc : c < C) : hitAt (diagL long rem C R) r c = diagX long rem r c := by
  unfold hitAt diagL
  have e : ((List.range R).map fun r => diagRow long rem r C).getD r [] = diagRow long rem r C := by simp [List.getD, hr]
  rw [e]; unfold diagRow
  simp [List.getD, hc]

/-- A diagonal hits a ship that lies on the board once. -/
theorem diag_hit {rows cols long rem : Int} {p : Pl} (h : diagB rows cols long rem = true) (hp : p ∈ placesI rows cols long) : hitP (diagI rows cols long rem) long.toNat p = 1 := by
  obtain ⟨R, C, L, r, c, d, rfl, rfl, rfl, hb, rfl, hl, hL⟩ := mem_placesI hp
  obtain ⟨h1, h2, h3, h4⟩ := diagB_yes h
  obtain ⟨m, rfl⟩ := Int.eq_ofNat_of_zero_le (a := rem) (by omega)
  unfold diagI
  rw [if_pos h]
  unfold hitP hN
  simp only [Int.toNat_natCast]
  have e : ((List.range L).map fun k => hitAt (diagL (L : Int) (m : Int) C R) (r + k * d) (c + k * (1 - d))) = (List.range L).map fun (k : Nat) => if (((r + c : Nat) : Int) + (k : Int)) % (L : Int) = (m : Int) then 1 else 0 := by
    refine List.map_congr_left fun k hk => ?_
    obtain ⟨q1, q2⟩ := lies_at hl (List.mem_range.1 hk)
    rw [hitAt_diag q1 q2]
    unfold diagX
    have : (((r + k * d : Nat) : Int) + ((c + k * (1 - d) : Nat) : Int)) = (((r + c : Nat) : Int) + (k : Int)) := by
      rcases hl with ⟨rfl, _⟩ | ⟨rfl, _⟩ <;> simp <;> omega
    rw [this]
  rw [e]
  have hrc : r + c < 12 := by rcases hl with ⟨_, _, _⟩ | ⟨_, _, _⟩ <;> omega
  have := diag_line ⟨L, by omega⟩ ⟨m, by omega⟩ ⟨r + c, hrc⟩ (by show m < L; omega)
  exact this

theorem diag_still {rows cols long rem : Int} (h : diagB rows cols long rem = true) : stillI rows cols (diagI rows cols long rem) long = [] := by
  rw [stillI_del (shotsB_diag h)]
  rw [List.filter_eq_nil_iff]
  intro p hp
  rw [diag_hit h hp]; decide

/-- All remainders together. -/
def diagSum (rows cols long : Int) (k : Nat) : Int := sumI ((List.range k).map fun (m : Nat) => sumR (diagL long m cols.toNat rows.toNat))
theorem diagSum_succ (rows cols long : Int) (k : Nat) : diagSum rows cols long (k + 1) = diagSum rows cols long k + sumR (diagL long k cols.toNat rows.toNat) := by
  unfold diagSum; rw [List.range_succ, List.map_append, sumI_append]; simp [sumI]
theorem diag_all : ∀ r c l : Fin 7, 0 < l.val → diagSum r.val c.val l.val l.val = (r.val : Int) * (c.val : Int) := by decide +kernel
end Go.Proofs.Ytahamfgkcnepgaa
