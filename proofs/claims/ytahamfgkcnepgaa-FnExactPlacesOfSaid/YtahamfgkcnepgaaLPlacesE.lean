/- The walk of the law on the exactness of PlacesOf. -/
import Derived.Test.YtahamfgkcnepgaaPlaces
namespace Go.Proofs.Ytahamfgkcnepgaa
open Go.RowKit

/-- v0: the reference's answer; v1: the program's. -/
structure ExP (w : World) (v0 v1 : Value) (Z L : List Pl) (l0 h0 l1 h1 : Nat) (W : World) : Prop where
  bel : Below w.heap.size w W
  o0 : OwnP W l0 h0 v0 Z
  o1 : OwnP W l1 h1 v1 L
  a0 : w.heap.size ≤ l0
  a1 : h0 ≤ l1
  a2 : h1 ≤ W.heap.size
  a3 : w.heap.size ≤ l1
  a4 : h0 ≤ W.heap.size

section
variable {w W W' : World} {v0 v1 : Value} {Z L : List Pl} {l0 h0 l1 h1 : Nat}
theorem exP_mk {W1 : World} (b1 : Below w.heap.size w W) (o0 : OwnP W w.heap.size W.heap.size v0 Z) (b2 : Below W.heap.size W W1) (o1 : OwnP W1 W.heap.size W1.heap.size v1 L) : ExP w v0 v1 Z L w.heap.size W.heap.size W.heap.size W1.heap.size W1 :=
  ⟨b1.trans (b2.mono b1.size), o0.below b2 (Nat.le_refl _), o1, Nat.le_refl _, Nat.le_refl _, Nat.le_refl _, b1.size, b2.size⟩
theorem ExP.below (s : ExP w v0 v1 Z L l0 h0 l1 h1 W) {B : Nat} (hb : Below B W W') (hB : B = W.heap.size) : ExP w v0 v1 Z L l0 h0 l1 h1 W' := by
  subst hB
  obtain ⟨bel, o0, o1, a0, a1, a2, a3, a4⟩ := s
  exact ⟨bel.trans (hb.mono bel.size), o0.below hb a4, o1.below hb a2, a0, a1, Nat.le_trans a2 hb.size, a3, Nat.le_trans a4 hb.size⟩
theorem ExP.turn1 {L' : List Pl} (s : ExP w v0 v1 Z L l0 h0 l1 h1 W) (ho : OwnP W' l1 h1 v1 L') (ht : Turned l1 h1 W W') : ExP w v0 v1 Z L' l0 h0 l1 h1 W' := by
  obtain ⟨bel, o0, o1, a0, a1, a2, a3, a4⟩ := s
  exact ⟨below_turned bel ht a3 bel.size, o0.turned ht a4 (.inl a1), ho, a0, a1, Nat.le_trans a2 ht.size, a3, Nat.le_trans a4 ht.size⟩
end

set_option maxHeartbeats 800000 in
set_option maxRecDepth 100000 in
theorem walk_FnExactPlacesOf (a0 a1 a2 : Int) (w : World) (_w0 : (Lit.int .i64 a0).wf = true) (_w1 : (Lit.int .i64 a1).wf = true) (_w2 : (Lit.int .i64 a2).wf = true) :
    Calls Try.prog 5 #[.int .i64 a0, .int .i64 a1, .int .i64 a2] w fun e w' => e = .returned (.bool true) ∧ Below w.heap.size w w' := by
  have hM := length_placesI a0 a1 a2
  have H1 := Lib.hid (fun W => specPlacesOf_any a0 a1 a2 W)
  have H2 := Lib.hid (fun W => implPlacesOf_any a0 a1 a2 W)
  generalize placesI a0 a1 a2 = Z at *
  clear _w0 _w1 _w2
  go_enter Try.func5, Try.ntmps5
  go_wp2_with fail
  refine (H1.out w).mono ?_
  rintro e w2 ⟨v0, rfl, o2, b2⟩
  go_wp2_with fail
  refine (H2.out w2).mono ?_
  rintro e w4 ⟨v1, rfl, o4, b4⟩
  have st := exP_mk b2 o2 b4 o4
  clear b4 o4 o2 b2
  have ST := Lib.hid st
  have r1 := st.o1.rd
  have r0 := st.o0.rd
  clear st
  go_wp2_with fail
  refine (eqPlaceS_true _ _ Z _ r1 r0).mono ?_
  rintro e w5 ⟨rfl, b5⟩
  have st := ST.out.below b5 rfl
  clear ST r1 r0 b5
  have ST := Lib.hid st
  have o5 := st.o1
  clear st
  go_wp2_with fail
  refine (markPlaceS_any _ _ _ Z 1 _ o5 (by omega) (by omega)).mono ?_
  rintro e w6 ⟨rfl, o6, t6, -⟩
  have st := ST.out.turn1 o6 t6
  clear ST o5 o6 t6
  have ST := Lib.hid st
  have r1 := st.o1.rd
  clear st
  go_wp2_with fail
  refine (heldPlaceS_up _ Z 1 _ r1 (by omega) (by omega)).mono ?_
  rintro e w7 ⟨rfl, rfl⟩
  clear r1
  go_wp2_with fail
  refine (H2.out w7).mono ?_
  rintro e w9 ⟨v9, rfl, o9, b9⟩
  have st := ST.out.below b9 rfl
  clear ST b9
  have ST := Lib.hid st
  have r0 := st.o0.rd
  clear st
  go_wp2_with fail
  refine (eqPlaceS_true _ _ Z _ o9.rd r0).mono ?_
  rintro e w10 ⟨rfl, b10⟩
  have st := ST.out.below b10 rfl
  clear ST r0 o9 b10
  have ST := Lib.hid st
  have r1 := st.o1.rd
  clear st
  go_wp2_with fail
  refine (heldPlaceS_up _ Z 1 _ r1 (by omega) (by omega)).mono ?_
  rintro e w11 ⟨rfl, rfl⟩
  have HF := Lib.hid ST.out.bel
  clear ST r1
  go_wp2
  go_ret
  exact ⟨rfl, HF.out⟩
end Go.Proofs.Ytahamfgkcnepgaa
