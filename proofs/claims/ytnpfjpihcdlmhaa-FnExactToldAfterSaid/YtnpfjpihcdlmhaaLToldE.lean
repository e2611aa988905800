/- The walk of the law on the exactness of ToldAfter. -/
import Derived.Test.YtnpfjpihcdlmhaaSpecT
namespace Go.Proofs.Ytnpfjpihcdlmhaa
open Go.RowKit

set_option maxRecDepth 100000 in
theorem walk_FnExactToldAfter (a0 : Int) (a1 : Option Addr) (len1 cap1 : Nat) (z1 : List Int) (w : World) (w0 : (Lit.int .i64 a0).wf = true) (w1 : IsRowB .i64 w a1 len1 cap1 z1) :
    Calls Try.prog 8 #[.int .i64 a0, .slice a1 len1 cap1] w fun e w' => e = .returned (.bool true) ∧ Below w.heap.size w w' := by
  obtain ⟨hR, hl, hz⟩ := rd_of_row w1
  have hp := bd_i64 w0
  generalize z1.take len1 = zs at *
  have HL := Lib.hid hl; have HZ := Lib.hid hz; clear hl w0 w1 hz
  by_cases hlen : 1048576 < len1
  · go_enter Try.func8, Try.ntmps8
    go_wp2
    go_ret
    exact ⟨rfl, Below.refl _ _⟩
  · have hz : zs.length ≤ 35184372088832 := by have := HL.out; omega
    go_enter Try.func8, Try.ntmps8
    go_wp2_with fail
    refine (toIntS_any _ zs _ hR hz).mono ?_
    rintro e w1 ⟨u, rfl, o1, b1⟩
    have hR1 := hR.below b1
    go_wp2_with fail
    refine (specToldAfter_any _ zs _ _ o1.rd hp).mono ?_
    rintro e w2 ⟨rfl, b2⟩
    have hR2 := hR1.below b2
    go_wp2_with fail
    refine (toIntS_any _ zs _ hR2 hz).mono ?_
    rintro e w3 ⟨u3, rfl, o3, b3⟩
    go_wp2_with fail
    refine (implToldAfter_any _ zs _ _ o3.rd hp).mono ?_
    rintro e w4 ⟨rfl, b4⟩
    have o4 := o3.below b4 (Nat.le_refl _)
    have hR4 := (hR2.below b3).below b4
    generalize toldI a0 zs = b
    go_wp2_with fail
    refine (toIntS_any _ zs _ hR4 hz).mono ?_
    rintro e w5 ⟨u5, rfl, o5, b5⟩
    go_wp2_with fail
    refine (eqIntS_true _ _ zs _ (o4.rd.below b5) o5.rd).mono ?_
    rintro e w6 ⟨rfl, n, rfl⟩
    go_wp2
    go_ret
    have c2 := b1.trans (b2.mono b1.size)
    have c3 := c2.trans (b3.mono c2.size)
    have c4 := c3.trans (b4.mono c3.size)
    exact ⟨rfl, below_drewN (c4.trans (b5.mono c4.size)) n⟩
end Go.Proofs.Ytnpfjpihcdlmhaa
