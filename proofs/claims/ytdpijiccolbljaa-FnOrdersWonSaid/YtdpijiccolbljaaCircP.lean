/- Circles: the plain words. -/
import Derived.Test.YtdpijiccolbljaaMinMax
import Derived.Test.YtdpijiccolbljaaOpenBy
import Derived.Test.YtdpijiccolbljaaPermC
namespace Go.Proofs.Ytdpijiccolbljaa
open Go.RowKit

theorem circK_succ (g : Nat → Nat) (k : Nat) : circK g (k + 1) = if minN (orbG g k 7 k) k = k then circK g k ++ [(orbG g k 7 k).length] else circK g k := by
  show cond (Nat.beq (minN (orbG g k 7 k) k) k) (circK g k ++ [lenN (orbG g k 7 k)]) (circK g k) = _
  rw [lenN_eq]
  by_cases h : minN (orbG g k 7 k) k = k
  · rw [if_pos h, h, Nat.beq_refl]; rfl
  · have e : Nat.beq (minN (orbG g k 7 k) k) k = false := by rw [Bool.eq_false_iff]; exact fun h2 => h (Nat.eq_of_beq_eq_true h2)
    rw [if_neg h, e]; rfl
theorem length_circK (g : Nat → Nat) : ∀ k, (circK g k).length ≤ k
  | 0 => Nat.le_refl _
  | k + 1 => by
    have := length_circK g k
    rw [circK_succ]
    split
    · simp; omega
    · omega
theorem sumN_nil {l : List Nat} (h : l.length = 0) : sumN l = 0 := by
  rw [List.length_eq_zero_iff.1 h]; rfl
theorem length_circG (g : Nat → Nat) (n : Nat) : (circG g n).length = (circK g n).length := by unfold circG; rw [length_srtN]; simp
theorem Perm7.sum {ns : List Nat} (h : Perm7 ns) : sumN (circG (nx ns) ns.length) = ns.length := Nat.eq_of_beq_eq_true (cond_and h.ofC).1
theorem Perm7.some {ns : List Nat} (h : Perm7 ns) : 0 < (circK (nx ns) ns.length).length := by
  rcases Nat.eq_zero_or_pos (circK (nx ns) ns.length).length with h0 | h0
  · have h1 := h.sum
    rw [sumN_nil (by rw [length_circG]; exact h0)] at h1
    have := h.lo
    omega
  · exact h0

/-- What CirclesOf returns. -/
def circI (zs : List Int) : List Int := bif boxB zs then iz (circG (nx (nz zs)) zs.length) else []
theorem circI_no {zs : List Int} (h : boxB zs = false) : circI zs = [] := by unfold circI; rw [h]; rfl
theorem circI_iz {ns : List Nat} (h : Perm7 ns) : circI (iz ns) = iz (circG (nx ns) ns.length) := by
  unfold circI
  rw [perm_boxB h, cond_true, nz_iz, length_iz]
theorem circI_len (zs : List Int) : (circI zs).length ≤ 7 := by
  rcases Bool.eq_false_or_eq_true (boxB zs) with h | h
  · obtain ⟨ns, rfl, hP⟩ := boxB_perm h
    rw [circI_iz hP, length_iz, length_circG]
    have := length_circK (nx ns) ns.length
    have := hP.hi
    omega
  · rw [circI_no h]; simp
theorem openI_iz {ns : List Nat} (h : Perm7 ns) {k : Nat} (hk : k < ns.length) : openI (iz ns) k = iz (orb ns k) := by
  unfold openI openB
  rw [perm_boxB h, inB_true (by omega) (by rw [length_iz]; omega)]
  rw [Bool.and_self, cond_true, nz_iz, Int.toNat_natCast]
end Go.Proofs.Ytdpijiccolbljaa
