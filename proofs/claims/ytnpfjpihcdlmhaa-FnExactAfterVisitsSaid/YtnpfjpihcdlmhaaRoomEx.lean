/- The state behind the first calls of a law on exactness whose answer is a room: what is kept. -/
import Derived.Test.YtnpfjpihcdlmhaaSpecT
namespace Go.Proofs.Ytnpfjpihcdlmhaa
open Go.RowKit

/-- arg: what came in; x1: its copy; room 0 (block q0, slice v0): the reference's; room 1 (block q1, slice v1): the program's. -/
structure AvS (w : World) (arg x1 v0 v1 : Value) (zs L X1 L1 : List Int) (sw cnt : Int) (l0 h0 q0 lx hx l1 h1 q1 : Nat) (W : World) : Prop where
  bel : Below w.heap.size w W
  rarg : Rd w arg zs
  ox : Own W lx hx x1 X1
  k0 : W.heap[q0]? = some (.cells #[.int .i64 sw, .int .i64 cnt, v0] 30 (0, 0))
  o0 : Own W l0 h0 v0 L
  k1 : W.heap[q1]? = some (.cells #[.int .i64 sw, .int .i64 cnt, v1] 30 (0, 0))
  o1 : Own W l1 h1 v1 L1
  a0 : w.heap.size ≤ l0
  a1 : h0 ≤ q0
  a2 : q0 < lx
  a3 : hx ≤ l1
  a4 : h1 ≤ q1
  a5 : q1 < W.heap.size
  a6 : q0 < l1
  a7 : q0 < q1
  a8 : hx ≤ q1
  a9 : w.heap.size ≤ lx ∧ w.heap.size ≤ l1

section
variable {w W W' : World} {arg x1 v0 v1 : Value} {zs L X1 L1 : List Int} {sw cnt : Int} {l0 h0 q0 lx hx l1 h1 q1 : Nat}
theorem AvS.below (s : AvS w arg x1 v0 v1 zs L X1 L1 sw cnt l0 h0 q0 lx hx l1 h1 q1 W) {B : Nat} (hb : Below B W W') (hB : B = W.heap.size) : AvS w arg x1 v0 v1 zs L X1 L1 sw cnt l0 h0 q0 lx hx l1 h1 q1 W' := by
  subst hB
  obtain ⟨bel, rarg, ox, k0, o0, k1, o1, a0, a1, a2, a3, a4, a5, a6, a7, a8, a9⟩ := s
  exact ⟨bel.trans (hb.mono bel.size), rarg, ox.below hb (by omega), (hb.block _ (by omega)).trans k0, o0.below hb (by omega), (hb.block _ (by omega)).trans k1, o1.below hb (by omega), a0, a1, a2, a3, a4, Nat.lt_of_lt_of_le a5 hb.size, a6, a7, a8, a9⟩
theorem AvS.drewN (s : AvS w arg x1 v0 v1 zs L X1 L1 sw cnt l0 h0 q0 lx hx l1 h1 q1 W) (n : Nat) : AvS w arg x1 v0 v1 zs L X1 L1 sw cnt l0 h0 q0 lx hx l1 h1 q1 (W.drewN n) := s.below (below_drewN (Below.refl _ _) n) rfl
theorem AvS.alloc (s : AvS w arg x1 v0 v1 zs L X1 L1 sw cnt l0 h0 q0 lx hx l1 h1 q1 W) (o : Obj) : AvS w arg x1 v0 v1 zs L X1 L1 sw cnt l0 h0 q0 lx hx l1 h1 q1 (W.alloc o) := s.below ((Below.refl _ _).alloc (Nat.le_refl _) o) rfl
theorem AvS.turnX {X' : List Int} (s : AvS w arg x1 v0 v1 zs L X1 L1 sw cnt l0 h0 q0 lx hx l1 h1 q1 W) (ho : Own W' lx hx x1 X') (ht : Turned lx hx W W') : AvS w arg x1 v0 v1 zs L X' L1 sw cnt l0 h0 q0 lx hx l1 h1 q1 W' := by
  obtain ⟨bel, rarg, ox, k0, o0, k1, o1, a0, a1, a2, a3, a4, a5, a6, a7, a8, a9⟩ := s
  exact ⟨below_turned bel ht a9.1 bel.size, rarg, ho, (ht.block _ (by omega) (by omega)).trans k0, o0.turned ht (by omega) (by omega), (ht.block _ a5 (by omega)).trans k1, o1.turned ht (by omega) (by omega), a0, a1, a2, a3, a4, Nat.lt_of_lt_of_le a5 ht.size, a6, a7, a8, a9⟩
theorem AvS.turn1 {L' : List Int} (s : AvS w arg x1 v0 v1 zs L X1 L1 sw cnt l0 h0 q0 lx hx l1 h1 q1 W) (ho : Own W' l1 h1 v1 L') (ht : Turned l1 h1 W W') : AvS w arg x1 v0 v1 zs L X1 L' sw cnt l0 h0 q0 lx hx l1 h1 q1 W' := by
  obtain ⟨bel, rarg, ox, k0, o0, k1, o1, a0, a1, a2, a3, a4, a5, a6, a7, a8, a9⟩ := s
  exact ⟨below_turned bel ht a9.2 bel.size, rarg, ox.turned ht (by omega) (by omega), (ht.block _ (by omega) (by omega)).trans k0, o0.turned ht (by omega) (by omega), (ht.block _ a5 (by omega)).trans k1, ho, a0, a1, a2, a3, a4, Nat.lt_of_lt_of_le a5 ht.size, a6, a7, a8, a9⟩
theorem AvS.rd (s : AvS w arg x1 v0 v1 zs L X1 L1 sw cnt l0 h0 q0 lx hx l1 h1 q1 W) : Rd W arg zs := s.rarg.below s.bel
end
end Go.Proofs.Ytnpfjpihcdlmhaa
