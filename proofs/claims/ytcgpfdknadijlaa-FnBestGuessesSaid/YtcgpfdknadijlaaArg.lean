/- What a law's walk is told of an argument of a struct's type, or of rows. -/
import Derived.Test.YtcgpfdknadijlaaProg
import Derived.Test.YtcgpfdknadijlaaBase
import Derived.ProofKit
import Derived.Lib.SmallJoins
import Derived.Deep.Matrix
namespace Go.Proofs.Ytcgpfdknadijlaa
open Go.RowKit Go.Joins Go.ChangeShapes Go.WideShapes Go.Deep

section
variable {H : Type} {enc : TypeId × Value → H} {W : World}

theorem arg_row {t e : TypeId} {k : IntKind} {n : Nat} {a : Option Addr} {len cap : Nat} {y : DataW H × List MemPlace} (ht : Try.prog.underlying t = some (.slice e)) (he : Try.prog.underlying e = some (.int k)) (hc : Try.prog.cellsOf e = 1)
    (hf : DataW.trod enc Try.prog W 0 (fun _ => true) true n t [.slice a len cap] = some y) : ∃ zs, IsRowB k W a len cap zs := by
  rcases open_ints ht he hc hf with ⟨hcs, _⟩ | ⟨x, l, c, zs, hcs, _, hl, hm, hz, _, hcell, hwz⟩
  · simp at hcs
    obtain ⟨rfl, rfl, rfl⟩ := hcs
    exact ⟨[], .inl ⟨rfl, rfl, rfl, rfl⟩⟩
  · simp at hcs
    obtain ⟨rfl, rfl, rfl⟩ := hcs
    exact ⟨zs, .inr ⟨_, rfl, hl, hm, by simpa using hz, hcell, hwz⟩⟩




end
end Go.Proofs.Ytcgpfdknadijlaa
