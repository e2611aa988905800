/- What a law's walk is told of an argument of a struct's type, or of rows. -/
import Derived.Test.YtnpfjpihcdlmhaaProg
import Derived.Test.YtnpfjpihcdlmhaaBase
import Derived.ProofKit
import Derived.Lib.SmallJoins
import Derived.Deep.Matrix
namespace Go.Proofs.Ytnpfjpihcdlmhaa
open Go.RowKit Go.Joins Go.ChangeShapes Go.WideShapes Go.Deep

section
variable {H : Type} {enc : TypeId × Value → H} {W : World}

theorem arg_row {t e : TypeId} {k : IntKind} {n : Nat} {a : Option Addr} {len cap : Nat} {y : DataW H × List MemPlace} (ht : Try.prog.underlying t = some (.slice e)) (he : Try.prog.underlying e = some (.int k)) (hc : Try.prog.cellsOf e = 1)
    (hf : DataW.trod enc Try.prog W 0 (fun _ => true) true n t [.slice a len cap] = some y) : ∃ zs, IsRowB k W a len cap zs := by
  rcases open_ints ht he hc hf with ⟨hcs, _⟩ | ⟨x, l, c, zs, hcs, _, hl, hm, hz, _, hcell, hwz⟩
  · simp at hcs
    obtain ⟨rfl, rfl, rfl⟩ := hcs
    exact ⟨[], .inl ⟨rfl, rfl, rfl, rfl⟩⟩
  · simp at hcs
    obtain ⟨rfl, rfl, rfl⟩ := hcs
    exact ⟨zs, .inr ⟨_, rfl, hl, hm, by simpa using hz, hcell, hwz⟩⟩

/-- A room that came in. -/
def ArgRoom (w : World) (v : Value) : Prop :=
  ∃ sw cnt a len cap zs, v = .agg #[.int .i64 sw, .int .i64 cnt, .slice a len cap] ∧ (Lit.int .i64 sw).wf = true ∧ (Lit.int .i64 cnt).wf = true ∧ IsRowB .i64 w a len cap zs

theorem arg_room {v : Value} {d : DataW H} {p : List MemPlace} {b0 : Nat} (hv : Value.okWide Try.prog W .any b0 36 v) (h : DataW.Trod enc Try.prog W 0 (fun _ => true) true 36 v d p) : ArgRoom W v := by
  obtain ⟨v0, v1, v2, y0, y1, y2, n, rfl, rfl, rfl, h0, h1, h2⟩ := open_agg3 Try.underlying36 (by kernel_rfl) (by kernel_rfl) hv h
  obtain ⟨a, e0, rfl, wa⟩ := DataW.trod_int Try.underlying3 h0
  obtain ⟨b, e1, rfl, wb⟩ := DataW.trod_int Try.underlying3 h1
  obtain ⟨s, l, c, e2⟩ := slice_form Try.underlying22 h2
  simp at e0 e1 e2
  subst e0 e1 e2
  obtain ⟨zs, hz⟩ := arg_row Try.underlying22 Try.underlying3 (by kernel_rfl) h2
  exact ⟨a, b, s, l, c, zs, rfl, wa, wb, hz⟩
end
end Go.Proofs.Ytnpfjpihcdlmhaa
