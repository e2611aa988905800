/- What a law's walk is told of an argument of a struct's type, or of rows. -/
import Derived.Test.YtahamfgkcnepgaaProg
import Derived.Test.YtahamfgkcnepgaaBase
import Derived.Test.YtahamfgkcnepgaaNest
import Derived.ProofKit
import Derived.Lib.SmallJoins
import Derived.Deep.Matrix
namespace Go.Proofs.Ytahamfgkcnepgaa
open Go.RowKit Go.Joins Go.ChangeShapes Go.WideShapes Go.Deep

section
variable {H : Type} {enc : TypeId × Value → H} {W : World}

theorem arg_row {t e : TypeId} {k : IntKind} {n : Nat} {a : Option Addr} {len cap : Nat} {y : DataW H × List MemPlace} (ht : Try.prog.underlying t = some (.slice e)) (he : Try.prog.underlying e = some (.int k)) (hc : Try.prog.cellsOf e = 1)
    (hf : DataW.trod enc Try.prog W 0 (fun _ => true) true n t [.slice a len cap] = some y) : ∃ zs, IsRowB k W a len cap zs := by
  rcases open_ints ht he hc hf with ⟨hcs, _⟩ | ⟨x, l, c, zs, hcs, _, hl, hm, hz, _, hcell, hwz⟩
  · simp at hcs
    obtain ⟨rfl, rfl, rfl⟩ := hcs
    exact ⟨[], .inl ⟨rfl, rfl, rfl, rfl⟩⟩
  · simp at hcs
    obtain ⟨rfl, rfl, rfl⟩ := hcs
    exact ⟨zs, .inr ⟨_, rfl, hl, hm, by simpa using hz, hcell, hwz⟩⟩


/-- A place that came in. -/
def ArgPlace (_w : World) (v : Value) : Prop :=
  ∃ r c d, v = .agg #[.int .i64 r, .int .i64 c, .int .i64 d] ∧ (Lit.int .i64 r).wf = true ∧ (Lit.int .i64 c).wf = true ∧ (Lit.int .i64 d).wf = true

theorem arg_place {v : Value} {d : DataW H} {p : List MemPlace} {b0 : Nat} (hv : Value.okWide Try.prog W .any b0 23 v) (h : DataW.Trod enc Try.prog W 0 (fun _ => true) true 23 v d p) : ArgPlace W v := by
  obtain ⟨v0, v1, v2, y0, y1, y2, n, rfl, rfl, rfl, h0, h1, h2⟩ := open_agg3 Try.underlying23 (by kernel_rfl) (by kernel_rfl) hv h
  obtain ⟨a, e0, rfl, wa⟩ := DataW.trod_int Try.underlying3 h0
  obtain ⟨b, e1, rfl, wb⟩ := DataW.trod_int Try.underlying3 h1
  obtain ⟨c, e2, rfl, wc⟩ := DataW.trod_int Try.underlying3 h2
  simp at e0 e1 e2
  subst e0 e1 e2
  exact ⟨a, b, c, rfl, wa, wb, wc⟩

/-- Rows of numbers that came in. -/
def ArgRows (w : World) (v : Value) : Prop :=
  ∃ zss, RdR w v zss ∧ ∀ zs ∈ zss, ∀ z ∈ zs, -9223372036854775808 ≤ z ∧ z ≤ 9223372036854775807

theorem arg_rows {v : Value} {d : DataW H} {p : List MemPlace} {b0 : Nat} (hv : Value.okWide Try.prog W .any b0 24 v) (h : DataW.Trod enc Try.prog W 0 (fun _ => true) true 24 v d p) : ArgRows W v := by
  obtain ⟨s, len, cap, rfl⟩ := okWide_slice Try.underlying24 hv
  obtain ⟨fuel, hf⟩ := h
  rcases open_int_rows Try.underlying24 Try.underlying49 Try.underlying3 (by kernel_rfl) (by kernel_rfl) (by simpa [Value.cells] using hf) with ⟨e, _⟩ | ⟨a, l, c, A, L, C, Z, e, _, hl, hm, _, hr⟩
  · simp at e
    obtain ⟨rfl, rfl, rfl⟩ := e
    exact ⟨[], ⟨none, 0, rfl, by simp, by omega, fun h => absurd h (by simp)⟩, by simp⟩
  · simp at e
    obtain ⟨rfl, rfl, rfl⟩ := e
    have hrow : ∀ r, r < cap → IsRowB .i64 W (A r) (L r) (C r) (Z r) := fun r hrc => by
      obtain ⟨_, h2, h3, h4, h5, h6, h7⟩ := hr r hrc
      cases hA : A r with
      | none =>
        have h0 := h6 hA
        have hz : Z r = [] := List.length_eq_zero_iff.1 (by omega)
        exact .inl ⟨rfl, by omega, h0, hz⟩
      | some x => exact .inr ⟨x, rfl, h2, h3, h4, fun i hi => (h7 x hA).2 i (by omega), h5⟩
    have hg : ∀ j, j < len → (((List.range len).map fun r => (Z r).take (L r)).getD j []) = (Z j).take (L j) := fun j hj => by simp [List.getD, hj]
    refine ⟨(List.range len).map fun r => (Z r).take (L r), ⟨some a, cap, by simp, by simpa using hl, by unfold maxLen at hm; omega, fun h0 => ?_⟩, fun zs hz => ?_⟩
    · simp only [List.length_map, List.length_range] at h0
      obtain ⟨b, off, spot⟩ := a
      have hc0 := (hr 0 (by omega)).1
      have hspot : spot = none := by simpa [Addr.add] using World.cell?_spot hc0
      subst hspot
      refine ⟨b, off, rfl, block_lt_of_cell (a := ⟨b, off, none⟩) (by simpa [Addr.add] using hc0), fun j hj => ?_⟩
      simp only [List.length_map, List.length_range] at hj
      have hcj := (hr j (by omega)).1
      have e : (⟨b, off, none⟩ : Addr).add j = ⟨b, off + j, none⟩ := by unfold Addr.add; split <;> simp_all
      rw [e] at hcj
      refine ⟨_, hcj, ?_⟩
      rw [hg j hj]
      exact (rd_of_row (hrow j (by omega))).1
    · obtain ⟨r, hrr, rfl⟩ := List.mem_map.1 hz
      exact (rd_of_row (hrow r (by have := List.mem_range.1 hrr; omega))).2.2
end
end Go.Proofs.Ytahamfgkcnepgaa
