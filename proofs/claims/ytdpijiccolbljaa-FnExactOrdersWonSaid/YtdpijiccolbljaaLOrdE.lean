/- The walk of the law on the exactness of OrdersWon. -/
import Derived.Test.YtdpijiccolbljaaOrdW
import Derived.Test.YtdpijiccolbljaaOrdS
namespace Go.Proofs.Ytdpijiccolbljaa
open Go.RowKit

set_option maxRecDepth 100000 in
theorem walk_FnExactOrdersWon (a0 a1 : Int) (w : World) (_w0 : (Lit.int .i64 a0).wf = true) (_w1 : (Lit.int .i64 a1).wf = true) :
    Calls Try.prog 9 #[.int .i64 a0, .int .i64 a1] w fun e w' => e = .returned (.bool true) ∧ Below w.heap.size w w' := by
  clear _w0 _w1
  go_enter Try.func9, Try.ntmps9
  go_wp2_with fail
  with_reducible refine (specOrdersWon_any a0 a1 _).mono ?_
  rintro e w1 ⟨rfl, b1⟩
  go_wp2_with fail
  with_reducible refine (implOrdersWon_any a0 a1 _).mono ?_
  rintro e w2 ⟨rfl, b2⟩
  have HB := Lib.hid (b1.trans (b2.mono b1.size))
  clear b1 b2
  generalize ordI a0 a1 = n
  go_wp2
  go_ret
  exact ⟨rfl, HB.out⟩
end Go.Proofs.Ytdpijiccolbljaa
