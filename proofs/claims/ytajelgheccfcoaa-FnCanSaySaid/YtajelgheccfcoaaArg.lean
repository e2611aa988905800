/- What a law's walk is told of an argument of a struct's type, or of rows. -/
import Derived.Test.YtajelgheccfcoaaProg
import Derived.Test.YtajelgheccfcoaaBase
import Derived.Test.YtajelgheccfcoaaSys
import Derived.Deep.SlicePairs
import Derived.ProofKit
import Derived.Lib.SmallJoins
import Derived.Deep.Matrix
namespace Go.Proofs.Ytajelgheccfcoaa
open Go.RowKit Go.Joins Go.ChangeShapes Go.WideShapes Go.Deep

section
variable {H : Type} {enc : TypeId × Value → H} {W : World}

theorem arg_row {t e : TypeId} {k : IntKind} {n : Nat} {a : Option Addr} {len cap : Nat} {y : DataW H × List MemPlace} (ht : Try.prog.underlying t = some (.slice e)) (he : Try.prog.underlying e = some (.int k)) (hc : Try.prog.cellsOf e = 1)
    (hf : DataW.trod enc Try.prog W 0 (fun _ => true) true n t [.slice a len cap] = some y) : ∃ zs, IsRowB k W a len cap zs := by
  rcases open_ints ht he hc hf with ⟨hcs, _⟩ | ⟨x, l, c, zs, hcs, _, hl, hm, hz, _, hcell, hwz⟩
  · simp at hcs
    obtain ⟨rfl, rfl, rfl⟩ := hcs
    exact ⟨[], .inl ⟨rfl, rfl, rfl, rfl⟩⟩
  · simp at hcs
    obtain ⟨rfl, rfl, rfl⟩ := hcs
    exact ⟨zs, .inr ⟨_, rfl, hl, hm, by simpa using hz, hcell, hwz⟩⟩




/-- Sayings that came in. -/
def ArgSayings (w : World) (v : Value) : Prop := ∃ ps, RdS w v ps ∧ ∀ q ∈ ps, q.2.length ≤ 9223372036854775807
/-- A text that came in. -/
def ArgText (_w : World) (v : Value) : Prop := ∃ l, v = .string (tx l) ∧ l.length ≤ 9223372036854775807

theorem arg_text {v : Value} {d : DataW H} {p : List MemPlace} {b0 : Nat} (hv : Value.okWide Try.prog W .any b0 9 v) (h : DataW.Trod enc Try.prog W 0 (fun _ => true) true 9 v d p) : ArgText W v := by
  obtain ⟨s, rfl⟩ := okWide_string Try.underlying9 hv
  obtain ⟨fuel, hf⟩ := h
  obtain ⟨s', e, -, hs⟩ := DataW.trod_string Try.underlying9 hf
  obtain ⟨l, hl, hn⟩ := tx_all s
  simp only [Value.cells] at e
  simp at e
  subst e
  exact ⟨l, by rw [hl], by unfold maxLen at hs; omega⟩

theorem arg_sayings {v : Value} {d : DataW H} {p : List MemPlace} {b0 : Nat} (hv : Value.okWide Try.prog W .any b0 22 v) (h : DataW.Trod enc Try.prog W 0 (fun _ => true) true 22 v d p) : ArgSayings W v := by
  obtain ⟨s, len, cap, rfl⟩ := okWide_slice Try.underlying22 hv
  obtain ⟨fuel, hf⟩ := h
  rcases open_slice_pairs Try.underlying22 Try.underlying50 (by kernel_rfl) (by kernel_rfl) (by kernel_rfl) (by kernel_rfl) (by kernel_rfl) (by simpa [Value.cells] using hf) with ⟨e, _⟩ | ⟨a, l, c, m, n, V0, V1, D0, D1, P0, P1, e, _, hl, hm, hmm, _, hc⟩
  · simp at e
    obtain ⟨rfl, rfl, rfl⟩ := e
    exact ⟨[], ⟨none, 0, rfl, by simp, by omega, fun h => absurd h (by simp)⟩, by simp⟩
  · simp at e
    obtain ⟨rfl, rfl, rfl⟩ := e
    simp only [if_true] at hmm
    subst hmm
    have each : ∀ i, i < m → ∃ q : Int × List UInt8, V0 i = .int .i64 q.1 ∧ V1 i = .string (tx q.2) ∧ q.2.length ≤ 9223372036854775807 := by
      intro i hi
      obtain ⟨-, -, h0, h1⟩ := hc i hi
      obtain ⟨z, e0, -, -⟩ := DataW.trod_int Try.underlying3 h0
      obtain ⟨t, e1, -, ht⟩ := DataW.trod_string Try.underlying9 h1
      obtain ⟨k, hk, hn⟩ := tx_all t
      simp at e0 e1
      exact ⟨(z, k), e0, by rw [e1, hk], by unfold maxLen at ht; show k.length ≤ _; omega⟩
    obtain ⟨q, hq⟩ := choose_lt each
    have hg : ∀ j, j < len → (((List.range len).map q).getD j noSy) = q j := fun j hj => by simp [List.getD, hj]
    refine ⟨(List.range len).map q, ⟨some a, m, by simp, by simpa using hl, by unfold maxLen at hm; omega, fun h0 => ?_⟩, fun z hz => ?_⟩
    · simp only [List.length_map, List.length_range] at h0
      obtain ⟨b, off, spot⟩ := a
      have hc0 := (hc 0 (by omega)).1
      have hspot : spot = none := by simpa [Addr.add] using World.cell?_spot hc0
      subst hspot
      have e : ∀ j, (⟨b, off, none⟩ : Addr).add j = ⟨b, off + j, none⟩ := fun j => by unfold Addr.add; split <;> simp_all
      refine ⟨b, off, rfl, block_lt_of_cell (a := ⟨b, off, none⟩) (by simpa [Addr.add] using hc0), fun j hj => ?_⟩
      simp only [List.length_map, List.length_range] at hj
      obtain ⟨h0, h1, -, -⟩ := hc j (by omega)
      obtain ⟨q0, q1, -⟩ := hq j (by omega)
      rw [e, q0] at h0
      rw [e, q1] at h1
      rw [hg j hj]
      exact ⟨h0, by rw [← Nat.add_assoc] at h1; exact h1⟩
    · obtain ⟨r, hr, rfl⟩ := List.mem_map.1 hz
      exact (hq r (by have := List.mem_range.1 hr; omega)).2.2
end
end Go.Proofs.Ytajelgheccfcoaa
