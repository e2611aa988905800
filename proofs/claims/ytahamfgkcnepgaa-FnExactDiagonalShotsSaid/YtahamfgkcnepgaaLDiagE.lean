/- The walk of the law on the exactness of DiagonalShots. -/
import Derived.Test.YtahamfgkcnepgaaDiag
import Derived.Test.YtahamfgkcnepgaaExR
namespace Go.Proofs.Ytahamfgkcnepgaa
open Go.RowKit

theorem manyR_same (n : Nat) : ∀ (zss : List (List Int)), (∀ zs ∈ zss, zs.length ≤ n) → manyR zss ≤ n * zss.length
  | [], _ => by simp [manyR]
  | a :: l, h => by
    have h1 := h a (by simp)
    have h2 := manyR_same n l fun zs hz => h zs (by simp [hz])
    rw [List.length_cons, Nat.mul_add]
    simp only [manyR]; omega
theorem manyR_diag (rows cols long rem : Int) : manyR (diagI rows cols long rem) ≤ 36 := by
  unfold diagI
  split
  · rename_i h
    obtain ⟨h1, h2, -, -⟩ := diagB_yes h
    have := manyR_same 6 (diagL long rem cols.toNat rows.toNat) fun zs hz => by
      obtain ⟨r, _, rfl⟩ := List.mem_map.1 hz
      rw [length_diagRow]; omega
    rw [length_diagL] at this; omega
  · simp [manyR]

set_option maxHeartbeats 800000 in
set_option maxRecDepth 100000 in
theorem walk_FnExactDiagonalShots (a0 a1 a2 a3 : Int) (w : World) (_w0 : (Lit.int .i64 a0).wf = true) (_w1 : (Lit.int .i64 a1).wf = true) (_w2 : (Lit.int .i64 a2).wf = true) (_w3 : (Lit.int .i64 a3).wf = true) :
    Calls Try.prog 6 #[.int .i64 a0, .int .i64 a1, .int .i64 a2, .int .i64 a3] w fun e w' => e = .returned (.bool true) ∧ Below w.heap.size w w' := by
  have hM := manyR_diag a0 a1 a2 a3
  have H1 := Lib.hid (fun W => specDiagonalShots_any a0 a1 a2 a3 W)
  have H2 := Lib.hid (fun W => implDiagonalShots_any a0 a1 a2 a3 W)
  generalize diagI a0 a1 a2 a3 = Z at *
  clear _w0 _w1 _w2 _w3
  go_enter Try.func6, Try.ntmps6
  go_wp2_with fail
  refine (H1.out w).mono ?_
  rintro e w2 ⟨v0, u0, rfl, o2, b2⟩
  go_wp2_with fail
  refine (H2.out w2).mono ?_
  rintro e w4 ⟨v1, u1, rfl, o4, b4⟩
  have st : ExR w v0 v1 u0 u1 Z Z w.heap.size w2.heap.size w2.heap.size w4.heap.size w4 := exR_mk b2 o2 b4 o4
  have h01 : w2.heap.size ≤ w4.heap.size := b4.size
  clear b4 o4 o2 b2
  have ST := Lib.hid st
  have r1 := st.o1.rd
  have r0 := st.o0.rd
  clear st
  go_wp2_with fail
  refine (eqIntSS_true _ _ Z _ r1 r0).mono ?_
  rintro e w5 ⟨rfl, n, rfl⟩
  have st := ST.out.below (below_drewN (Below.refl _ _) n) rfl h01
  clear ST r1 r0
  have ST := Lib.hid st
  have o5 := st.o1
  have hh5 := st.a2
  have h01b : w2.heap.size ≤ (w4.drewN n).heap.size := h01
  clear st
  go_wp2_with fail
  refine (markIntSS_any _ _ _ _ Z 1 _ o5 hh5 (by omega) (by omega)).mono ?_
  rintro e w6 ⟨rfl, o6, t6, -⟩
  have st := ST.out.turn1 o6 t6 h01b
  have h01c : w2.heap.size ≤ w6.heap.size := Nat.le_trans h01b t6.size
  clear ST o5 o6 t6 hh5 h01 h01b
  have ST := Lib.hid st
  have r1 := st.o1.rd
  clear st
  go_wp2_with fail
  refine (heldIntSS_up _ Z 1 _ r1 (by omega) (by omega)).mono ?_
  rintro e w7 ⟨rfl, rfl⟩
  clear r1
  go_wp2_with fail
  refine (H2.out w7).mono ?_
  rintro e w9 ⟨v9, u9, rfl, o9, b9⟩
  have st := ST.out.below b9 rfl h01c
  have h01d : w2.heap.size ≤ w9.heap.size := Nat.le_trans h01c b9.size
  clear ST b9 h01c
  have ST := Lib.hid st
  have r0 := st.o0.rd
  clear st
  go_wp2_with fail
  refine (eqIntSS_true _ _ Z _ o9.rd r0).mono ?_
  rintro e w10 ⟨rfl, m, rfl⟩
  have st := ST.out.below (below_drewN (Below.refl _ _) m) rfl h01d
  clear ST r0 o9 h01d
  have ST := Lib.hid st
  have r1 := st.o1.rd
  clear st
  go_wp2_with fail
  refine (heldIntSS_up _ Z 1 _ r1 (by omega) (by omega)).mono ?_
  rintro e w11 ⟨rfl, rfl⟩
  have HF := Lib.hid ST.out.bel
  clear ST r1
  go_wp2
  go_ret
  exact ⟨rfl, HF.out⟩
end Go.Proofs.Ytahamfgkcnepgaa
