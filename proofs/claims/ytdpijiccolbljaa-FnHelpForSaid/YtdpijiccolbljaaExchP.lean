/- With two boxes exchanged there is one circle more, or one fewer: the plain words. -/
import Derived.Test.YtdpijiccolbljaaExch
import Derived.Test.YtdpijiccolbljaaCircP
import Derived.Test.YtdpijiccolbljaaPermX
import Derived.Test.YtdpijiccolbljaaPermH
namespace Go.Proofs.Ytdpijiccolbljaa
open Go.RowKit

theorem ext_nx {a b : List Nat} (hl : a.length = b.length) (h : ∀ i, i < a.length → nx a i = nx b i) : a = b := by
  apply List.ext_getElem hl
  intro i h1 h2
  have := h i h1
  rw [nx_getD, nx_getD] at this
  simpa [List.getD, List.getElem?_eq_getElem h1, List.getElem?_eq_getElem h2] using this
theorem exch_comm (ns : List Nat) (a b : Nat) (ha : a < ns.length) (hb : b < ns.length) : exch ns a b = exch ns b a := by
  apply ext_nx (by rw [length_exch, length_exch])
  intro i _
  rw [nx_exch ns a b i ha hb, nx_exch ns b a i hb ha]
  by_cases h1 : b = i
  · by_cases h2 : a = i
    · rw [if_pos h1, if_pos h2, h1, h2]
    · rw [if_pos h1, if_neg h2, if_pos h1]
  · rw [if_neg h1]
    by_cases h2 : a = i
    · rw [if_pos h2, if_pos h2]
    · rw [if_neg h2, if_neg h2, if_neg h1]
/-- How many circles there are. -/
def many (ns : List Nat) : Nat := (circG (nx ns) ns.length).length
theorem many_cn {ns : List Nat} (h : Perm7 ns) : many ns = cnG (nx ns) ns.length := by
  unfold many
  rw [length_circG, ← lenN_eq]
  exact (Nat.eq_of_beq_eq_true h.ofE).symm
theorem many_lt {ns : List Nat} (h : Perm7 ns) {a b : Nat} (hab : a < b) (hb : b < ns.length) : many (exch ns a b) = many ns + 1 ∨ many (exch ns a b) + 1 = many ns := by
  have h1 := allN_out (allN_out h.ofX b hb) a hab
  rw [many_cn (exch_perm h (by omega) hb), many_cn h, length_exch, nx_exG ns a b (by omega) hb]
  cases h2 : Nat.beq (cnG (exG (nx ns) a b) ns.length) (Nat.add 1 (cnG (nx ns) ns.length))
  · rw [h2, cond_false] at h1
    have := Nat.eq_of_beq_eq_true h1
    right
    have e : Nat.add 1 (cnG (exG (nx ns) a b) ns.length) = 1 + cnG (exG (nx ns) a b) ns.length := rfl
    omega
  · have := Nat.eq_of_beq_eq_true h2
    left
    have e : Nat.add 1 (cnG (nx ns) ns.length) = 1 + cnG (nx ns) ns.length := rfl
    omega
theorem many_exch {ns : List Nat} (h : Perm7 ns) {a b : Nat} (hne : a ≠ b) (ha : a < ns.length) (hb : b < ns.length) : many (exch ns a b) = many ns + 1 ∨ many (exch ns a b) + 1 = many ns := by
  rcases Nat.lt_or_gt_of_ne hne with h1 | h1
  · exact many_lt h h1 hb
  · rw [exch_comm ns a b ha hb]; exact many_lt h h1 ha
theorem many_bd {ns : List Nat} (h : Perm7 ns) : 1 ≤ many ns ∧ many ns ≤ 7 := by
  unfold many
  rw [length_circG]
  have := length_circK (nx ns) ns.length
  have := h.hi
  have := h.some
  omega
theorem exchI_iz {ns : List Nat} (h : Perm7 ns) {a b : Nat} (ha : a < ns.length) (hb : b < ns.length) : exchI (iz ns) a b = iz (exch ns a b) := by
  unfold exchI exchB
  rw [perm_boxB h, inB_true (by omega) (by rw [length_iz]; omega), inB_true (by omega) (by rw [length_iz]; omega)]
  rw [Bool.and_self, Bool.and_self, cond_true, nz_iz, Int.toNat_natCast, Int.toNat_natCast]
end Go.Proofs.Ytdpijiccolbljaa
