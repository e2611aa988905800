/- The state behind the first calls of a law on exactness whose answer is rows of numbers. -/
import Derived.Test.YtahamfgkcnepgaaNestW
namespace Go.Proofs.Ytahamfgkcnepgaa
open Go.RowKit

/-- v0: the reference's answer; v1: the program's. -/
structure ExR (w : World) (v0 v1 : Value) (u0 u1 : List Value) (Z L : List (List Int)) (l0 h0 l1 h1 : Nat) (W : World) : Prop where
  bel : Below w.heap.size w W
  o0 : OwnR W l0 h0 v0 u0 Z
  o1 : OwnR W l1 h1 v1 u1 L
  a0 : w.heap.size ≤ l0
  a1 : h0 ≤ l1
  a2 : h1 ≤ W.heap.size
  a3 : w.heap.size ≤ l1

section
variable {w W W' : World} {v0 v1 : Value} {u0 u1 : List Value} {Z L : List (List Int)} {l0 h0 l1 h1 : Nat}
theorem exR_mk {W1 : World} (b1 : Below w.heap.size w W) (o0 : OwnR W w.heap.size W.heap.size v0 u0 Z) (b2 : Below W.heap.size W W1) (o1 : OwnR W1 W.heap.size W1.heap.size v1 u1 L) : ExR w v0 v1 u0 u1 Z L w.heap.size W.heap.size W.heap.size W1.heap.size W1 :=
  ⟨b1.trans (b2.mono b1.size), o0.below b2 (Nat.le_refl _), o1, Nat.le_refl _, Nat.le_refl _, Nat.le_refl _, b1.size⟩
theorem ExR.below (s : ExR w v0 v1 u0 u1 Z L l0 h0 l1 h1 W) {B : Nat} (hb : Below B W W') (hB : B = W.heap.size) (h01 : h0 ≤ W.heap.size) : ExR w v0 v1 u0 u1 Z L l0 h0 l1 h1 W' := by
  subst hB
  obtain ⟨bel, o0, o1, a0, a1, a2, a3⟩ := s
  exact ⟨bel.trans (hb.mono bel.size), o0.below hb h01, o1.below hb a2, a0, a1, Nat.le_trans a2 hb.size, a3⟩
theorem ExR.turn1 {L' : List (List Int)} (s : ExR w v0 v1 u0 u1 Z L l0 h0 l1 h1 W) (ho : OwnR W' l1 h1 v1 u1 L') (ht : Turned l1 h1 W W') (h01 : h0 ≤ W.heap.size) : ExR w v0 v1 u0 u1 Z L' l0 h0 l1 h1 W' := by
  obtain ⟨bel, o0, o1, a0, a1, a2, a3⟩ := s
  exact ⟨below_turned bel ht a3 bel.size, o0.turned ht h01 (.inl a1), ho, a0, a1, Nat.le_trans a2 ht.size, a3⟩
end
end Go.Proofs.Ytahamfgkcnepgaa
