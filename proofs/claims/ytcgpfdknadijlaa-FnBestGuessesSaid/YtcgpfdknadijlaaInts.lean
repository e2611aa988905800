/- The walks of the small helpers on slices of numbers: copy, compare, mark, look for marks. -/
import Derived.Test.YtcgpfdknadijlaaProg
import Derived.Test.YtcgpfdknadijlaaBase
namespace Go.Proofs.Ytcgpfdknadijlaa
open Go.RowKit

theorem infoInt : (Try.prog.info? 3).map (fun i => (i.zero, i.size, i.bytes)) = some (some (.int .i64 0), 1, 8) := by kernel_rfl



/-- The numbers k, k + 1, .., n of them. -/
def upFrom (k : Int) (n : Nat) : List Int := (List.range n).map fun (j : Nat) => k + (j : Int)
theorem length_upFrom (k : Int) (n : Nat) : (upFrom k n).length = n := by simp [upFrom]
theorem getD_upFrom (k : Int) (n j : Nat) (h : j < n) : (upFrom k n).getD j 0 = k + (j : Int) := by
  simp [upFrom, List.getD, h]

theorem upd_step (zs : List Int) (k : Int) (j : Nat) (h : j < zs.length) : (upFrom k j ++ zs.drop j).set j (k + (j : Int)) = upFrom k (j + 1) ++ zs.drop (j + 1) := by
  have e : upFrom k (j + 1) = upFrom k j ++ [k + (j : Int)] := by simp [upFrom, List.range_succ]
  rw [e, List.set_append_right _ _ (by rw [length_upFrom]; exact Nat.le_refl _), length_upFrom, Nat.sub_self, List.drop_eq_getElem_cons h]
  simp only [List.set_cons_zero, List.append_assoc, List.singleton_append]







end Go.Proofs.Ytcgpfdknadijlaa
