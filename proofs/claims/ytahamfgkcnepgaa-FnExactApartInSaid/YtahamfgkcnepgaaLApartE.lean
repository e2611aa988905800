/- The walk of the law on the exactness of ApartIn. -/
import Derived.Test.YtahamfgkcnepgaaApartI
namespace Go.Proofs.Ytahamfgkcnepgaa
open Go.RowKit

set_option maxRecDepth 100000 in
theorem walk_FnExactApartIn (a0 a1 a2 : Int) (w : World) (_w0 : (Lit.int .i64 a0).wf = true) (_w1 : (Lit.int .i64 a1).wf = true) (_w2 : (Lit.int .i64 a2).wf = true) :
    Calls Try.prog 7 #[.int .i64 a0, .int .i64 a1, .int .i64 a2] w fun e w' => e = .returned (.bool true) ∧ Below w.heap.size w w' := by
  clear _w0 _w1 _w2
  go_enter Try.func7, Try.ntmps7
  go_wp2_with fail
  refine (specApartIn_any a0 a1 a2 _).mono ?_
  rintro e w1 ⟨rfl, b1⟩
  go_wp2_with fail
  refine (implApartIn_any a0 a1 a2 _).mono ?_
  rintro e w2 ⟨rfl, b2⟩
  have HB := Lib.hid (b1.trans (b2.mono b1.size))
  clear b1 b2
  generalize apartI a0 a1 a2 = n
  go_wp2
  go_ret
  exact ⟨rfl, HB.out⟩
end Go.Proofs.Ytahamfgkcnepgaa
