/- More on all ways, in plain words. -/
import Derived.Test.YtajelgheccfcoaaKnownP
namespace Go.Proofs.Ytajelgheccfcoaa
open Go.RowKit

theorem way_at {p : Int} {ps : List Sy} {k j : Nat} (hk : k ∈ waysN p ps) (hj : j < ps.length) : soB p (ps.getD j noSy).2 k = bitB k (ps.getD j noSy).1 := by
  unfold waysN at hk
  split at hk
  · have h := (List.mem_filter.1 hk).2
    unfold wayB at h
    have := List.all_eq_true.1 h _ (memS hj rfl)
    simpa using this
  · cases hk
theorem ways_nil {p : Int} (h : 1 ≤ p ∧ p ≤ 5) : (waysN p []).length = 2 ^ p.toNat := by
  have hs : sayB p [] = true := by unfold sayB; rw [inB_true h.1 h.2]; rfl
  unfold waysN
  rw [if_pos hs]
  have : (List.range (2 ^ p.toNat)).filter (wayB p []) = List.range (2 ^ p.toNat) := List.filter_eq_self.2 fun _ _ => rfl
  rw [this, List.length_range]
theorem sayB_take {p : Int} {ps : List Sy} (n : Nat) (h : sayB p ps = true) : sayB p (ps.take n) = true := by
  obtain ⟨h1, h2, h3⟩ := sayB_yes h
  unfold sayB
  rw [inB_true h1.1 h1.2, decide_eq_true (by rw [List.length_take]; omega), List.all_eq_true.2 fun x hx => h3 x (List.mem_of_mem_take hx)]; rfl
theorem ways_fewer {p : Int} {ps : List Sy} (n : Nat) (h : sayB p ps = true) : (waysN p ps).length ≤ (waysN p (ps.take n)).length := by
  unfold waysN
  rw [if_pos h, if_pos (sayB_take n h), ← List.countP_eq_length_filter, ← List.countP_eq_length_filter]
  refine List.countP_mono_left fun k _ hk => ?_
  unfold wayB at hk ⊢
  rw [List.all_eq_true] at hk ⊢
  exact fun x hx => hk x (List.mem_of_mem_take hx)
theorem ways_none {p : Int} {ps : List Sy} (h : sayB p ps = false) : waysN p ps = [] := by unfold waysN; rw [h]; rfl
theorem rdS_take {w : World} {a : Option Addr} {c m n : Nat} {ps : List Sy} (h : RdS w (.slice a m c) ps) (hn : n ≤ ps.length) : RdS w (.slice a n c) (ps.take n) := by
  obtain ⟨a', c', e, h1, h2, h3⟩ := h
  injection e with e1 e2 e3
  subst e1 e3
  have hl : (ps.take n).length = n := by rw [List.length_take]; omega
  refine ⟨a, c, by rw [hl], by omega, h2, fun h0 => ?_⟩
  obtain ⟨g, off, rfl, hg, hc⟩ := h3 (by omega)
  refine ⟨g, off, rfl, hg, fun j hj => ?_⟩
  have he : (ps.take n).getD j noSy = ps.getD j noSy := by
    simp only [List.getD]
    rw [List.getElem?_take, if_pos (by omega)]
  rw [he]
  exact hc j (by omega)
end Go.Proofs.Ytajelgheccfcoaa
