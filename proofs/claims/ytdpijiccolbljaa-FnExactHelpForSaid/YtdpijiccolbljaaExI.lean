/- What holds of memory in the laws on exactness of functions from numbers to numbers. -/
import Derived.Test.YtdpijiccolbljaaInts
namespace Go.Proofs.Ytdpijiccolbljaa
open Go.RowKit

/-- The argument v; the reference's result v0, the copy x, the program's result v1, each in blocks of its own. -/
structure ExS (w : World) (v x v0 v1 : Value) (zs xs L L1 : List Int) (lo0 hi0 lox hix lo1 hi1 : Nat) (W : World) : Prop where
  bel : Below w.heap.size w W
  arg : Rd w v zs
  o0 : Own W lo0 hi0 v0 L
  ox : Own W lox hix x xs
  o1 : Own W lo1 hi1 v1 L1
  a0 : w.heap.size ≤ lo0
  a1 : lo0 ≤ hi0
  a2 : hi0 ≤ lox
  a3 : lox ≤ hix
  a4 : hix ≤ lo1
  a5 : lo1 ≤ hi1
  a6 : hi1 ≤ W.heap.size

section
variable {w W W' : World} {v x v0 v1 : Value} {zs xs xs' L L1 L1' : List Int} {lo0 hi0 lox hix lo1 hi1 : Nat}

theorem ExS.rd (h : ExS w v x v0 v1 zs xs L L1 lo0 hi0 lox hix lo1 hi1 W) : Rd W v zs := h.arg.below h.bel
theorem ExS.below (h : ExS w v x v0 v1 zs xs L L1 lo0 hi0 lox hix lo1 hi1 W) (hb : Below W.heap.size W W') : ExS w v x v0 v1 zs xs L L1 lo0 hi0 lox hix lo1 hi1 W' := by
  obtain ⟨h1, h2, h3, h4, h5, a0, a1, a2, a3, a4, a5, a6⟩ := h
  have hs := hb.size
  exact ⟨h1.trans (hb.mono h1.size), h2, h3.below hb (by omega), h4.below hb (by omega), h5.below hb (by omega), a0, a1, a2, a3, a4, a5, by omega⟩
theorem ExS.drewN (h : ExS w v x v0 v1 zs xs L L1 lo0 hi0 lox hix lo1 hi1 W) (n : Nat) : ExS w v x v0 v1 zs xs L L1 lo0 hi0 lox hix lo1 hi1 (W.drewN n) :=
  ⟨below_drewN h.bel n, h.arg, h.o0.drewN n, h.ox.drewN n, h.o1.drewN n, h.a0, h.a1, h.a2, h.a3, h.a4, h.a5, h.a6⟩
theorem ExS.turnX (h : ExS w v x v0 v1 zs xs L L1 lo0 hi0 lox hix lo1 hi1 W) (ho : Own W' lox hix x xs') (ht : Turned lox hix W W') : ExS w v x v0 v1 zs xs' L L1 lo0 hi0 lox hix lo1 hi1 W' := by
  obtain ⟨h1, h2, h3, h4, h5, a0, a1, a2, a3, a4, a5, a6⟩ := h
  have hs := ht.size
  exact ⟨below_turned h1 ht (by omega) h1.size, h2, h3.turned ht (by omega) (.inl (by omega)), ho, h5.turned ht (by omega) (.inr (by omega)), a0, a1, a2, a3, a4, a5, by omega⟩
theorem ExS.turn1 (h : ExS w v x v0 v1 zs xs L L1 lo0 hi0 lox hix lo1 hi1 W) (ho : Own W' lo1 hi1 v1 L1') (ht : Turned lo1 hi1 W W') : ExS w v x v0 v1 zs xs L L1' lo0 hi0 lox hix lo1 hi1 W' := by
  obtain ⟨h1, h2, h3, h4, h5, a0, a1, a2, a3, a4, a5, a6⟩ := h
  have hs := ht.size
  exact ⟨below_turned h1 ht (by omega) h1.size, h2, h3.turned ht (by omega) (.inl (by omega)), h4.turned ht (by omega) (.inl (by omega)), ho, a0, a1, a2, a3, a4, a5, by omega⟩
end
end Go.Proofs.Ytdpijiccolbljaa
