/- The walk of the law on the exactness of AllFind. -/
import Derived.Test.YtdpijiccolbljaaFindS
namespace Go.Proofs.Ytdpijiccolbljaa
open Go.RowKit

set_option maxHeartbeats 800000 in
set_option maxRecDepth 100000 in
theorem walk_FnExactAllFind (a0 : Option Addr) (len0 cap0 : Nat) (z0 : List Int) (a1 : Int) (w : World) (w0 : IsRowB .i64 w a0 len0 cap0 z0) (_w1 : (Lit.int .i64 a1).wf = true) :
    Calls Try.prog 7 #[.slice a0 len0 cap0, .int .i64 a1] w fun e w' => e = .returned (.bool true) ∧ Below w.heap.size w w' := by
  obtain ⟨hR, hl, -⟩ := rd_of_row w0
  generalize z0.take len0 = zs at *
  have HL := Lib.hid hl; clear hl w0 _w1
  by_cases hlen : 1048576 < len0
  · go_enter Try.func7, Try.ntmps7
    go_wp2
    go_ret
    exact ⟨rfl, Below.refl _ _⟩
  · have hz : zs.length ≤ 35184372088832 := by have := HL.out; omega
    go_enter Try.func7, Try.ntmps7
    go_wp2_with fail
    refine (toIntS_any _ zs _ hR hz).mono ?_
    rintro e w1 ⟨u, rfl, o1, b1⟩
    go_wp2_with fail
    refine (specAllFind_any _ zs a1 _ o1.rd).mono ?_
    rintro e w2 ⟨rfl, b2⟩
    have s1 := b1.size
    have bb := b1.trans (b2.mono s1)
    have hR2 := hR.below bb
    clear o1 b1 b2
    go_wp2_with fail
    refine (toIntS_any _ zs _ hR2 hz).mono ?_
    rintro e w3 ⟨x, rfl, o3, b3⟩
    have r3 := o3.rd
    have bb := bb.trans (b3.mono bb.size)
    have hR3 := hR.below bb
    clear b3 hR2 o3
    go_wp2_with fail
    refine (implAllFind_any _ zs a1 _ r3).mono ?_
    rintro e w4 ⟨rfl, b4⟩
    have hR3 := hR3.below b4
    have r3 := r3.below b4
    have bb := bb.trans (b4.mono bb.size)
    clear b4
    generalize findB zs a1 = b
    go_wp2_with fail
    refine (toIntS_any _ zs _ hR3 hz).mono ?_
    rintro e w6 ⟨u6, rfl, o6, b6⟩
    have r3 := r3.below b6
    have r6 := o6.rd
    have HF := Lib.hid (bb.trans (b6.mono bb.size))
    clear b6 o6 hR3 bb
    go_wp2_with fail
    refine (eqIntS_true _ _ zs _ r3 r6).mono ?_
    rintro e w7 ⟨rfl, n, rfl⟩
    go_wp2
    go_ret
    exact ⟨rfl, below_drewN HF.out n⟩
end Go.Proofs.Ytdpijiccolbljaa
