/- The walk of the law on the exactness of RoundsOf. -/
import Derived.Test.YtnpfjpihcdlmhaaRounds
namespace Go.Proofs.Ytnpfjpihcdlmhaa
open Go.RowKit

set_option maxRecDepth 100000 in
theorem walk_FnExactRoundsOf (a0 a1 a2 : Int) (w0 : (Lit.int .i64 a0).wf = true) (_w1 : (Lit.int .i64 a1).wf = true) (_w2 : (Lit.int .i64 a2).wf = true) (w : World) :
    Calls Try.prog 4 #[.int .i64 a0, .int .i64 a1, .int .i64 a2] w fun e w' => e = .returned (.bool true) ∧ Below w.heap.size w w' := by
  have hp := bd_i64 w0
  have hL := rnd_len a0 a1 a2
  have H1 := Lib.hid (fun W => specRoundsOf_any a0 a1 a2 W hp)
  have H2 := Lib.hid (fun W => implRoundsOf_any a0 a1 a2 W)
  clear w0 hp
  generalize rnd a0 a1 a2 = L at *
  go_enter Try.func4, Try.ntmps4
  go_wp2_with fail
  refine (H1.out _).mono ?_
  rintro e w1 ⟨v0, rfl, o0, b0⟩
  go_wp2_with fail
  refine (H2.out _).mono ?_
  rintro e w2 ⟨v1, rfl, o1, b1⟩
  have s1 := b0.size
  have s2 := b1.size
  have o0b := o0.below b1 (Nat.le_refl _)
  have bb : Below w.heap.size w w2 := b0.trans (b1.mono s1)
  clear b0 b1 o0
  go_wp2_with fail
  refine (eqIntS_true _ _ L _ o1.rd o0b.rd).mono ?_
  rintro e w3 ⟨rfl, n, rfl⟩
  go_wp2_with fail
  refine (markIntS_any _ _ _ L 1 _ (o1.drewN n) (by omega) (by omega)).mono ?_
  rintro e w4 ⟨rfl, o4, t4, z4⟩
  rw [World.heap_drewN] at z4
  have o0c := (o0b.drewN n).turned t4 (by rw [World.heap_drewN]; exact s2) (.inl (Nat.le_refl _))
  have bc := below_turned (below_drewN bb n) t4 s1 (by rw [World.heap_drewN]; omega)
  have Z4 := Lib.hid z4
  clear z4 t4 bb o0b o1
  have r4 := o4.rd
  go_wp2_with fail
  refine (heldIntS_up _ L.length 1 _ r4 (by omega) (by omega)).mono ?_
  rintro e w5 ⟨rfl, rfl⟩
  go_wp2_with fail
  refine (H2.out _).mono ?_
  rintro e w6 ⟨v2, rfl, o2, b2⟩
  have s6 := Z4.out
  have hle : w.heap.size ≤ w5.heap.size := by omega
  have bd := bc.trans (b2.mono hle)
  have r6 := r4.below b2
  have r0 := (o0c.below b2 (by omega)).rd
  clear s6
  go_wp2_with fail
  refine (eqIntS_true _ _ L _ o2.rd r0).mono ?_
  rintro e w7 ⟨rfl, n7, rfl⟩
  go_wp2_with fail
  refine (heldIntS_up _ L.length 1 _ (r6.drewN n7) (by omega) (by omega)).mono ?_
  rintro e w8 ⟨rfl, rfl⟩
  go_wp2
  go_ret
  exact ⟨rfl, below_drewN bd n7⟩
end Go.Proofs.Ytnpfjpihcdlmhaa
