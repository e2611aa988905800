/- The walk of the law on the exactness of SureHit. -/
import Derived.Test.YtahamfgkcnepgaaSure
import Derived.Test.YtahamfgkcnepgaaLShotsE
namespace Go.Proofs.Ytahamfgkcnepgaa
open Go.RowKit

set_option maxRecDepth 100000 in
theorem walk_FnExactSureHit (a0 a1 : Int) (v2 : Value) (a3 : Int) (w : World) (_w0 : (Lit.int .i64 a0).wf = true) (_w1 : (Lit.int .i64 a1).wf = true) (w2 : ArgRows w v2) (_w3 : (Lit.int .i64 a3).wf = true) :
    Calls Try.prog 10 #[.int .i64 a0, .int .i64 a1, v2, .int .i64 a3] w fun e w' => e = .returned (.bool true) ∧ Below w.heap.size w w' := by
  obtain ⟨zss, hR, -⟩ := w2
  clear _w0 _w1 _w3
  go_enter Try.func10, Try.ntmps10
  go_wp2_with fail
  refine (szIntSS_any _ zss _ hR).mono ?_
  rintro e w1 ⟨⟨l, rfl, hl1, hl2, hl3⟩, rfl⟩
  by_cases h0 : l < 0
  · clear hl3
    go_wp2
    go_ret
    exact ⟨rfl, Below.refl _ _⟩
  · have hsz := hl3 (by omega)
    have hlz : zss.length ≤ 1048576 := by omega
    have HM : Hid (∀ zs ∈ zss, zs.length ≤ 1048576) := fun zs hz => by have := manyR_mem zs hz; omega
    clear hl3 hsz
    go_wp2_with fail
    refine (toIntSS_any _ zss _ hR hlz HM.out).mono ?_
    rintro e w2 ⟨u2, us2, rfl, o2, b2⟩
    go_wp2_with fail
    refine (specSureHit_any a0 a1 a3 _ zss _ o2.rd).mono ?_
    rintro e w3 ⟨rfl, b3⟩
    have bb3 := b2.trans (b3.mono b2.size)
    have hR2 := hR.below bb3
    clear o2
    go_wp2_with fail
    refine (toIntSS_any _ zss _ hR2 hlz HM.out).mono ?_
    rintro e w4 ⟨u4, us4, rfl, o4, b4⟩
    go_wp2_with fail
    refine (implSureHit_any a0 a1 a3 _ zss _ o4.rd).mono ?_
    rintro e w5 ⟨rfl, b5⟩
    have o5 := o4.below b5 (Nat.le_refl _)
    have hR5 := (hR2.below b4).below b5
    generalize sureI a0 a1 zss a3 = b
    clear o4
    go_wp2_with fail
    refine (toIntSS_any _ zss _ hR5 hlz HM.out).mono ?_
    rintro e w6 ⟨u6, us6, rfl, o6, b6⟩
    have r5 := o5.rd.below b6
    go_wp2_with fail
    refine (eqIntSS_true _ _ zss _ r5 o6.rd).mono ?_
    rintro e w7 ⟨rfl, n, rfl⟩
    have c4 := bb3.trans (b4.mono bb3.size)
    have c5 := c4.trans (b5.mono c4.size)
    have HF := Lib.hid (below_drewN (c5.trans (b6.mono c5.size)) n)
    clear b2 b3 bb3 b4 b5 b6 c4 c5 o6 o5 r5 hR5 hR2
    go_wp2
    go_ret
    exact ⟨rfl, HF.out⟩
end Go.Proofs.Ytahamfgkcnepgaa
