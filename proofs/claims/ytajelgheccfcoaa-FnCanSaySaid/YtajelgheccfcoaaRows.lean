/-
  No cell of these rows narrows 'for every input' (looked for: loops, veiled, ifaces, maps, wideKeys, modest, calm, conditions, laid).
  DERIVED. THE GIVEN ROWS OF THIS SEAT. 9 by the template 'for every input the law returns true; each argument reads behind the call as it read before'; 0 by the template 'total and deterministic' (their statements: YtajelgheccfcoaaTotals.lean).
  GIVEN WITH THE SEED: the statements are not yours to turn. If you find one false, say at which input.
  Laid BY PROGRAM, IN A SANDBOX (cutbox-rows.mjs): the forced cells as the released guide's own fill.sh prints them over the translation f144d63667057618… (all of the seat's roots in one cut). By AI agents, Wed Nov 11 2026. No macro, syntax, notation, axiom, sorry.
-/
import Derived.Test.YtajelgheccfcoaaChecked
import GoSem.Claim
import GoSem.ClaimJoined
import GoSem.ClaimMapViews
import Derived.JoinedTies
import Derived.KernelRfl
namespace Go.Proofs.Ytajelgheccfcoaa
/- THE CELL 'sum', in the pinned program and in every row, IS THE sha256 OF THE DUMP (.gsa) THAT YtajelgheccfcoaaProg.lean LOADS. Nothing in Lean hashes anything: it is a label: what it is worth is what the hold of that sum in a sandbox is worth. -/
noncomputable def Try.pinned : Pinned := { name := "ytajelgheccfcoaa", sum := "f144d636670576181b38bda3bff02b33c56a34a84e3f39f2ef3e24f5ee0d7fa0", checked := Try.checked }
namespace Rows
def none {H : Type} : Left H := { results := [], args := [] }

/-- 'laws.FnExactFoundOut': WHATEVER THE INPUT: true; the input reads as it did. -/
def fnExactFoundOutSpec : ChangeSpec := { name := "fnExactFoundOut", fn := fun _ => fun
  | [d1, d2] => { results := [.lit (.bool true)], args := [d1, d2] }
  | _ => none }
def fnExactFoundOutRow : OpenClaim := { program := "ytajelgheccfcoaa", sum := "f144d636670576181b38bda3bff02b33c56a34a84e3f39f2ef3e24f5ee0d7fa0", func := "loop.example/questiongames/laws.FnExactFoundOut", spec := "fnExactFoundOut", unfollowed := true, recurses := true, apart := false }
def FnExactFoundOutSaid : Prop := fnExactFoundOutRow.holds Try.pinned (OpenSpec.ofChange fnExactFoundOutSpec)

/-- ITS FALSE NEIGHBOUR: 'it returns false'. Refute it at one input. -/
def fnExactFoundOutWrong : ChangeSpec := { name := "fnExactFoundOut", fn := fun _ => fun
  | [d1, d2] => { results := [.lit (.bool false)], args := [d1, d2] }
  | _ => none }
def FnExactFoundOutWrongFalsely : Prop := fnExactFoundOutRow.holds Try.pinned (OpenSpec.ofChange fnExactFoundOutWrong)

/-- 'laws.FnExactCanSay': WHATEVER THE INPUT: true; the input reads as it did. -/
def fnExactCanSaySpec : ChangeSpec := { name := "fnExactCanSay", fn := fun _ => fun
  | [d1, d2, d3, d4] => { results := [.lit (.bool true)], args := [d1, d2, d3, d4] }
  | _ => none }
def fnExactCanSayRow : OpenClaim := { program := "ytajelgheccfcoaa", sum := "f144d636670576181b38bda3bff02b33c56a34a84e3f39f2ef3e24f5ee0d7fa0", func := "loop.example/questiongames/laws.FnExactCanSay", spec := "fnExactCanSay", unfollowed := true, recurses := true, apart := false }
def FnExactCanSaySaid : Prop := fnExactCanSayRow.holds Try.pinned (OpenSpec.ofChange fnExactCanSaySpec)

/-- ITS FALSE NEIGHBOUR: 'it returns false'. Refute it at one input. -/
def fnExactCanSayWrong : ChangeSpec := { name := "fnExactCanSay", fn := fun _ => fun
  | [d1, d2, d3, d4] => { results := [.lit (.bool false)], args := [d1, d2, d3, d4] }
  | _ => none }
def FnExactCanSayWrongFalsely : Prop := fnExactCanSayRow.holds Try.pinned (OpenSpec.ofChange fnExactCanSayWrong)

/-- 'laws.FnExactWaysOf': WHATEVER THE INPUT: true; the input reads as it did. -/
def fnExactWaysOfSpec : ChangeSpec := { name := "fnExactWaysOf", fn := fun _ => fun
  | [d1, d2] => { results := [.lit (.bool true)], args := [d1, d2] }
  | _ => none }
def fnExactWaysOfRow : OpenClaim := { program := "ytajelgheccfcoaa", sum := "f144d636670576181b38bda3bff02b33c56a34a84e3f39f2ef3e24f5ee0d7fa0", func := "loop.example/questiongames/laws.FnExactWaysOf", spec := "fnExactWaysOf", unfollowed := true, recurses := true, apart := false }
def FnExactWaysOfSaid : Prop := fnExactWaysOfRow.holds Try.pinned (OpenSpec.ofChange fnExactWaysOfSpec)

/-- ITS FALSE NEIGHBOUR: 'it returns false'. Refute it at one input. -/
def fnExactWaysOfWrong : ChangeSpec := { name := "fnExactWaysOf", fn := fun _ => fun
  | [d1, d2] => { results := [.lit (.bool false)], args := [d1, d2] }
  | _ => none }
def FnExactWaysOfWrongFalsely : Prop := fnExactWaysOfRow.holds Try.pinned (OpenSpec.ofChange fnExactWaysOfWrong)

/-- 'laws.FnExactKnownOf': WHATEVER THE INPUT: true; the input reads as it did. -/
def fnExactKnownOfSpec : ChangeSpec := { name := "fnExactKnownOf", fn := fun _ => fun
  | [d1, d2] => { results := [.lit (.bool true)], args := [d1, d2] }
  | _ => none }
def fnExactKnownOfRow : OpenClaim := { program := "ytajelgheccfcoaa", sum := "f144d636670576181b38bda3bff02b33c56a34a84e3f39f2ef3e24f5ee0d7fa0", func := "loop.example/questiongames/laws.FnExactKnownOf", spec := "fnExactKnownOf", unfollowed := true, recurses := true, apart := false }
def FnExactKnownOfSaid : Prop := fnExactKnownOfRow.holds Try.pinned (OpenSpec.ofChange fnExactKnownOfSpec)

/-- ITS FALSE NEIGHBOUR: 'it returns false'. Refute it at one input. -/
def fnExactKnownOfWrong : ChangeSpec := { name := "fnExactKnownOf", fn := fun _ => fun
  | [d1, d2] => { results := [.lit (.bool false)], args := [d1, d2] }
  | _ => none }
def FnExactKnownOfWrongFalsely : Prop := fnExactKnownOfRow.holds Try.pinned (OpenSpec.ofChange fnExactKnownOfWrong)

/-- 'laws.FnSayingsOk': WHATEVER THE INPUT: true; the input reads as it did. -/
def fnSayingsOkSpec : ChangeSpec := { name := "fnSayingsOk", fn := fun _ => fun
  | [d] => { results := [.lit (.bool true)], args := [d] }
  | _ => none }
def fnSayingsOkRow : OpenClaim := { program := "ytajelgheccfcoaa", sum := "f144d636670576181b38bda3bff02b33c56a34a84e3f39f2ef3e24f5ee0d7fa0", func := "loop.example/questiongames/laws.FnSayingsOk", spec := "fnSayingsOk", unfollowed := true, recurses := true, apart := false }
def FnSayingsOkSaid : Prop := fnSayingsOkRow.holds Try.pinned (OpenSpec.ofChange fnSayingsOkSpec)

/-- ITS FALSE NEIGHBOUR: 'it returns false'. Refute it at one input. -/
def fnSayingsOkWrong : ChangeSpec := { name := "fnSayingsOk", fn := fun _ => fun
  | [d] => { results := [.lit (.bool false)], args := [d] }
  | _ => none }
def FnSayingsOkWrongFalsely : Prop := fnSayingsOkRow.holds Try.pinned (OpenSpec.ofChange fnSayingsOkWrong)

/-- 'laws.FnWaysOf': WHATEVER THE INPUT: true; the input reads as it did. -/
def fnWaysOfSpec : ChangeSpec := { name := "fnWaysOf", fn := fun _ => fun
  | [d] => { results := [.lit (.bool true)], args := [d] }
  | _ => none }
def fnWaysOfRow : OpenClaim := { program := "ytajelgheccfcoaa", sum := "f144d636670576181b38bda3bff02b33c56a34a84e3f39f2ef3e24f5ee0d7fa0", func := "loop.example/questiongames/laws.FnWaysOf", spec := "fnWaysOf", unfollowed := true, recurses := true, apart := false }
def FnWaysOfSaid : Prop := fnWaysOfRow.holds Try.pinned (OpenSpec.ofChange fnWaysOfSpec)

/-- ITS FALSE NEIGHBOUR: 'it returns false'. Refute it at one input. -/
def fnWaysOfWrong : ChangeSpec := { name := "fnWaysOf", fn := fun _ => fun
  | [d] => { results := [.lit (.bool false)], args := [d] }
  | _ => none }
def FnWaysOfWrongFalsely : Prop := fnWaysOfRow.holds Try.pinned (OpenSpec.ofChange fnWaysOfWrong)

/-- 'laws.FnCanSay': WHATEVER THE INPUT: true; the input reads as it did. -/
def fnCanSaySpec : ChangeSpec := { name := "fnCanSay", fn := fun _ => fun
  | [d] => { results := [.lit (.bool true)], args := [d] }
  | _ => none }
def fnCanSayRow : OpenClaim := { program := "ytajelgheccfcoaa", sum := "f144d636670576181b38bda3bff02b33c56a34a84e3f39f2ef3e24f5ee0d7fa0", func := "loop.example/questiongames/laws.FnCanSay", spec := "fnCanSay", unfollowed := true, recurses := true, apart := false }
def FnCanSaySaid : Prop := fnCanSayRow.holds Try.pinned (OpenSpec.ofChange fnCanSaySpec)

/-- ITS FALSE NEIGHBOUR: 'it returns false'. Refute it at one input. -/
def fnCanSayWrong : ChangeSpec := { name := "fnCanSay", fn := fun _ => fun
  | [d] => { results := [.lit (.bool false)], args := [d] }
  | _ => none }
def FnCanSayWrongFalsely : Prop := fnCanSayRow.holds Try.pinned (OpenSpec.ofChange fnCanSayWrong)

/-- 'laws.FnFoundOut': WHATEVER THE INPUT: true; the input reads as it did. -/
def fnFoundOutSpec : ChangeSpec := { name := "fnFoundOut", fn := fun _ => fun
  | [d] => { results := [.lit (.bool true)], args := [d] }
  | _ => none }
def fnFoundOutRow : OpenClaim := { program := "ytajelgheccfcoaa", sum := "f144d636670576181b38bda3bff02b33c56a34a84e3f39f2ef3e24f5ee0d7fa0", func := "loop.example/questiongames/laws.FnFoundOut", spec := "fnFoundOut", unfollowed := true, recurses := true, apart := false }
def FnFoundOutSaid : Prop := fnFoundOutRow.holds Try.pinned (OpenSpec.ofChange fnFoundOutSpec)

/-- ITS FALSE NEIGHBOUR: 'it returns false'. Refute it at one input. -/
def fnFoundOutWrong : ChangeSpec := { name := "fnFoundOut", fn := fun _ => fun
  | [d] => { results := [.lit (.bool false)], args := [d] }
  | _ => none }
def FnFoundOutWrongFalsely : Prop := fnFoundOutRow.holds Try.pinned (OpenSpec.ofChange fnFoundOutWrong)

/-- 'laws.FnKnownOf': WHATEVER THE INPUT: true; the input reads as it did. -/
def fnKnownOfSpec : ChangeSpec := { name := "fnKnownOf", fn := fun _ => fun
  | [d] => { results := [.lit (.bool true)], args := [d] }
  | _ => none }
def fnKnownOfRow : OpenClaim := { program := "ytajelgheccfcoaa", sum := "f144d636670576181b38bda3bff02b33c56a34a84e3f39f2ef3e24f5ee0d7fa0", func := "loop.example/questiongames/laws.FnKnownOf", spec := "fnKnownOf", unfollowed := true, recurses := true, apart := false }
def FnKnownOfSaid : Prop := fnKnownOfRow.holds Try.pinned (OpenSpec.ofChange fnKnownOfSpec)

/-- ITS FALSE NEIGHBOUR: 'it returns false'. Refute it at one input. -/
def fnKnownOfWrong : ChangeSpec := { name := "fnKnownOf", fn := fun _ => fun
  | [d] => { results := [.lit (.bool false)], args := [d] }
  | _ => none }
def FnKnownOfWrongFalsely : Prop := fnKnownOfRow.holds Try.pinned (OpenSpec.ofChange fnKnownOfWrong)

/- THE SECOND FORM. 'bulk': how many values and letters a reading holds, each counted each time it is reached (what is shared counts as often as it is met; a slice's spare places count too). A statement '..UptoSaid' is the law's where the arguments, and the package variables that the reading takes, are together of bulk at most 1048576: NARROWER than '..Said'. Prove '..Said' where nothing that the law and all that it calls make is longer than what came in: it says more and counts as full. Else prove '..UptoSaid'. A law counts once. -/
mutual
def uptoBulk {H : Type} : DataW H → Nat
  | .lit (.string bytes) => bytes.length + 1
  | .lit _ => 1
  | .nil => 1
  | .ptr d => uptoBulk d + 1
  | .slice elems spare => uptoBulkAll elems + uptoBulkAll spare + 1
  | .agg parts => uptoBulkAll parts + 1
  | .iface _ d => uptoBulk d + 1
  | .map entries => uptoBulkEntries entries + 1
  | .held _ => 1
def uptoBulkAll {H : Type} : List (DataW H) → Nat
  | [] => 0
  | d :: r => uptoBulk d + uptoBulkAll r
def uptoBulkEntries {H : Type} : List (Lit × DataW H) → Nat
  | [] => 0
  | x :: r => uptoBulkEntry x + uptoBulkEntries r
def uptoBulkEntry {H : Type} : Lit × DataW H → Nat
  | (.string bytes, d) => bytes.length + uptoBulk d + 1
  | (_, d) => uptoBulk d + 1
 end
def uptoSmall : (H : Type) → List (DataW H) → Bool := fun _ ds => decide (uptoBulkAll ds ≤ 1048576)
def OpenSpec.upto (s : _root_.Go.ChangeSpec) : _root_.Go.OpenSpec := { _root_.Go.OpenSpec.ofChange s with cond := some uptoSmall }

/-- 'laws.FnExactFoundOut', WHERE WHAT IT READS IS OF BULK AT MOST 1048576: true; the input reads as it did. -/
def fnExactFoundOutUptoRow : OpenClaim := { program := "ytajelgheccfcoaa", sum := "f144d636670576181b38bda3bff02b33c56a34a84e3f39f2ef3e24f5ee0d7fa0", func := "loop.example/questiongames/laws.FnExactFoundOut", spec := "fnExactFoundOut", unfollowed := true, recurses := true, apart := false, narrowed := true }
def FnExactFoundOutUptoSaid : Prop := fnExactFoundOutUptoRow.holds Try.pinned (OpenSpec.upto fnExactFoundOutSpec)

/-- 'laws.FnExactCanSay', WHERE WHAT IT READS IS OF BULK AT MOST 1048576: true; the input reads as it did. -/
def fnExactCanSayUptoRow : OpenClaim := { program := "ytajelgheccfcoaa", sum := "f144d636670576181b38bda3bff02b33c56a34a84e3f39f2ef3e24f5ee0d7fa0", func := "loop.example/questiongames/laws.FnExactCanSay", spec := "fnExactCanSay", unfollowed := true, recurses := true, apart := false, narrowed := true }
def FnExactCanSayUptoSaid : Prop := fnExactCanSayUptoRow.holds Try.pinned (OpenSpec.upto fnExactCanSaySpec)

/-- 'laws.FnExactWaysOf', WHERE WHAT IT READS IS OF BULK AT MOST 1048576: true; the input reads as it did. -/
def fnExactWaysOfUptoRow : OpenClaim := { program := "ytajelgheccfcoaa", sum := "f144d636670576181b38bda3bff02b33c56a34a84e3f39f2ef3e24f5ee0d7fa0", func := "loop.example/questiongames/laws.FnExactWaysOf", spec := "fnExactWaysOf", unfollowed := true, recurses := true, apart := false, narrowed := true }
def FnExactWaysOfUptoSaid : Prop := fnExactWaysOfUptoRow.holds Try.pinned (OpenSpec.upto fnExactWaysOfSpec)

/-- 'laws.FnExactKnownOf', WHERE WHAT IT READS IS OF BULK AT MOST 1048576: true; the input reads as it did. -/
def fnExactKnownOfUptoRow : OpenClaim := { program := "ytajelgheccfcoaa", sum := "f144d636670576181b38bda3bff02b33c56a34a84e3f39f2ef3e24f5ee0d7fa0", func := "loop.example/questiongames/laws.FnExactKnownOf", spec := "fnExactKnownOf", unfollowed := true, recurses := true, apart := false, narrowed := true }
def FnExactKnownOfUptoSaid : Prop := fnExactKnownOfUptoRow.holds Try.pinned (OpenSpec.upto fnExactKnownOfSpec)

/-- 'laws.FnSayingsOk', WHERE WHAT IT READS IS OF BULK AT MOST 1048576: true; the input reads as it did. -/
def fnSayingsOkUptoRow : OpenClaim := { program := "ytajelgheccfcoaa", sum := "f144d636670576181b38bda3bff02b33c56a34a84e3f39f2ef3e24f5ee0d7fa0", func := "loop.example/questiongames/laws.FnSayingsOk", spec := "fnSayingsOk", unfollowed := true, recurses := true, apart := false, narrowed := true }
def FnSayingsOkUptoSaid : Prop := fnSayingsOkUptoRow.holds Try.pinned (OpenSpec.upto fnSayingsOkSpec)

/-- 'laws.FnWaysOf', WHERE WHAT IT READS IS OF BULK AT MOST 1048576: true; the input reads as it did. -/
def fnWaysOfUptoRow : OpenClaim := { program := "ytajelgheccfcoaa", sum := "f144d636670576181b38bda3bff02b33c56a34a84e3f39f2ef3e24f5ee0d7fa0", func := "loop.example/questiongames/laws.FnWaysOf", spec := "fnWaysOf", unfollowed := true, recurses := true, apart := false, narrowed := true }
def FnWaysOfUptoSaid : Prop := fnWaysOfUptoRow.holds Try.pinned (OpenSpec.upto fnWaysOfSpec)

/-- 'laws.FnCanSay', WHERE WHAT IT READS IS OF BULK AT MOST 1048576: true; the input reads as it did. -/
def fnCanSayUptoRow : OpenClaim := { program := "ytajelgheccfcoaa", sum := "f144d636670576181b38bda3bff02b33c56a34a84e3f39f2ef3e24f5ee0d7fa0", func := "loop.example/questiongames/laws.FnCanSay", spec := "fnCanSay", unfollowed := true, recurses := true, apart := false, narrowed := true }
def FnCanSayUptoSaid : Prop := fnCanSayUptoRow.holds Try.pinned (OpenSpec.upto fnCanSaySpec)

/-- 'laws.FnFoundOut', WHERE WHAT IT READS IS OF BULK AT MOST 1048576: true; the input reads as it did. -/
def fnFoundOutUptoRow : OpenClaim := { program := "ytajelgheccfcoaa", sum := "f144d636670576181b38bda3bff02b33c56a34a84e3f39f2ef3e24f5ee0d7fa0", func := "loop.example/questiongames/laws.FnFoundOut", spec := "fnFoundOut", unfollowed := true, recurses := true, apart := false, narrowed := true }
def FnFoundOutUptoSaid : Prop := fnFoundOutUptoRow.holds Try.pinned (OpenSpec.upto fnFoundOutSpec)

/-- 'laws.FnKnownOf', WHERE WHAT IT READS IS OF BULK AT MOST 1048576: true; the input reads as it did. -/
def fnKnownOfUptoRow : OpenClaim := { program := "ytajelgheccfcoaa", sum := "f144d636670576181b38bda3bff02b33c56a34a84e3f39f2ef3e24f5ee0d7fa0", func := "loop.example/questiongames/laws.FnKnownOf", spec := "fnKnownOf", unfollowed := true, recurses := true, apart := false, narrowed := true }
def FnKnownOfUptoSaid : Prop := fnKnownOfUptoRow.holds Try.pinned (OpenSpec.upto fnKnownOfSpec)

end Rows
end Go.Proofs.Ytajelgheccfcoaa
