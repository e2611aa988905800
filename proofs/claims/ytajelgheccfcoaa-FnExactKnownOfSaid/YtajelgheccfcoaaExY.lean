/- What holds of memory in the laws on exactness of functions from sayings to numbers. -/
import Derived.Test.YtajelgheccfcoaaSysL
import Derived.Test.YtajelgheccfcoaaSysM
import Derived.Test.YtajelgheccfcoaaMark
import Derived.Test.YtajelgheccfcoaaArg
namespace Go.Proofs.Ytajelgheccfcoaa
open Go.RowKit

/-- The argument v; the reference's result v0, the copy's blocks, the program's result v1, each in blocks of its own. -/
structure ExY (w : World) (v v0 v1 : Value) (ps : List Sy) (L L1 : List Int) (lo0 hi0 lox hix lo1 hi1 : Nat) (W : World) : Prop where
  bel : Below w.heap.size w W
  arg : RdS w v ps
  o0 : Own W lo0 hi0 v0 L
  o1 : Own W lo1 hi1 v1 L1
  a0 : w.heap.size ≤ lo0
  a1 : lo0 ≤ hi0
  a2 : hi0 ≤ lox
  a3 : lox ≤ hix
  a4 : hix ≤ lo1
  a5 : lo1 ≤ hi1
  a6 : hi1 ≤ W.heap.size

section
variable {w W W' : World} {v v0 v1 : Value} {ps : List Sy} {L L1 L1' : List Int} {lo0 hi0 lox hix lo1 hi1 : Nat}

theorem ExY.rd (h : ExY w v v0 v1 ps L L1 lo0 hi0 lox hix lo1 hi1 W) : RdS W v ps := h.arg.below h.bel (Nat.le_refl _)
theorem ExY.below (h : ExY w v v0 v1 ps L L1 lo0 hi0 lox hix lo1 hi1 W) (hb : Below W.heap.size W W') : ExY w v v0 v1 ps L L1 lo0 hi0 lox hix lo1 hi1 W' := by
  obtain ⟨h1, h2, h3, h5, a0, a1, a2, a3, a4, a5, a6⟩ := h
  have hs := hb.size
  exact ⟨h1.trans (hb.mono h1.size), h2, h3.below hb (by omega), h5.below hb (by omega), a0, a1, a2, a3, a4, a5, by omega⟩
theorem ExY.drewN (h : ExY w v v0 v1 ps L L1 lo0 hi0 lox hix lo1 hi1 W) (n : Nat) : ExY w v v0 v1 ps L L1 lo0 hi0 lox hix lo1 hi1 (W.drewN n) :=
  ⟨below_drewN h.bel n, h.arg, h.o0.drewN n, h.o1.drewN n, h.a0, h.a1, h.a2, h.a3, h.a4, h.a5, h.a6⟩
theorem ExY.turnX (h : ExY w v v0 v1 ps L L1 lo0 hi0 lox hix lo1 hi1 W) (ht : Turned lox hix W W') : ExY w v v0 v1 ps L L1 lo0 hi0 lox hix lo1 hi1 W' := by
  obtain ⟨h1, h2, h3, h5, a0, a1, a2, a3, a4, a5, a6⟩ := h
  have hs := ht.size
  exact ⟨below_turned h1 ht (by omega) h1.size, h2, h3.turned ht (by omega) (.inl (by omega)), h5.turned ht (by omega) (.inr (by omega)), a0, a1, a2, a3, a4, a5, by omega⟩
theorem ExY.turn1 (h : ExY w v v0 v1 ps L L1 lo0 hi0 lox hix lo1 hi1 W) (ho : Own W' lo1 hi1 v1 L1') (ht : Turned lo1 hi1 W W') : ExY w v v0 v1 ps L L1' lo0 hi0 lox hix lo1 hi1 W' := by
  obtain ⟨h1, h2, h3, h5, a0, a1, a2, a3, a4, a5, a6⟩ := h
  have hs := ht.size
  exact ⟨below_turned h1 ht (by omega) h1.size, h2, h3.turned ht (by omega) (.inl (by omega)), ho, a0, a1, a2, a3, a4, a5, by omega⟩
end
theorem brief_of {ps : List Sy} (h : ∀ q ∈ ps, q.2.length ≤ 1048576) : Brief ps := fun q hq => by have := h q hq; omega
end Go.Proofs.Ytajelgheccfcoaa
