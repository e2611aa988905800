/-
  No cell of these rows narrows 'for every input' (looked for: loops, veiled, ifaces, maps, wideKeys, modest, calm, conditions, laid).
  DERIVED. THE GIVEN ROWS OF THIS SEAT. 3 by the template 'for every input the law returns true; each argument reads behind the call as it read before'; 0 by the template 'total and deterministic' (their statements: YtcgpfdknadijlaaTotals.lean).
  GIVEN WITH THE SEED: the statements are not yours to turn. If you find one false, say at which input.
  Laid BY PROGRAM, IN A SANDBOX (cutbox-rows.mjs): the forced cells as the released guide's own fill.sh prints them over the translation df80aa9a5dce3d27… (all of the seat's roots in one cut). By AI agents, Wed Nov 11 2026. No macro, syntax, notation, axiom, sorry.
-/
import Derived.Test.YtcgpfdknadijlaaChecked
import GoSem.Claim
import GoSem.ClaimJoined
import GoSem.ClaimMapViews
import Derived.JoinedTies
import Derived.KernelRfl
namespace Go.Proofs.Ytcgpfdknadijlaa
/- THE CELL 'sum', in the pinned program and in every row, IS THE sha256 OF THE DUMP (.gsa) THAT YtcgpfdknadijlaaProg.lean LOADS. Nothing in Lean hashes anything: it is a label: what it is worth is what the hold of that sum in a sandbox is worth. -/
noncomputable def Try.pinned : Pinned := { name := "ytcgpfdknadijlaa", sum := "df80aa9a5dce3d27464e2798734a72200d4c71cb51fc6da162f8cecf4d62e322", checked := Try.checked }
namespace Rows
def none {H : Type} : Left H := { results := [], args := [] }

/-- 'laws.FnBestGuesses': WHATEVER THE INPUT: true; the input reads as it did. -/
def fnBestGuessesSpec : ChangeSpec := { name := "fnBestGuesses", fn := fun _ => fun
  | [d] => { results := [.lit (.bool true)], args := [d] }
  | _ => none }
def fnBestGuessesRow : OpenClaim := { program := "ytcgpfdknadijlaa", sum := "df80aa9a5dce3d27464e2798734a72200d4c71cb51fc6da162f8cecf4d62e322", func := "loop.example/questiongames/laws.FnBestGuesses", spec := "fnBestGuesses", unfollowed := true, recurses := true, plainKeys := false, apart := false }
def FnBestGuessesSaid : Prop := fnBestGuessesRow.holds Try.pinned (OpenSpec.ofChange fnBestGuessesSpec)

/-- ITS FALSE NEIGHBOUR: 'it returns false'. Refute it at one input. -/
def fnBestGuessesWrong : ChangeSpec := { name := "fnBestGuesses", fn := fun _ => fun
  | [d] => { results := [.lit (.bool false)], args := [d] }
  | _ => none }
def FnBestGuessesWrongFalsely : Prop := fnBestGuessesRow.holds Try.pinned (OpenSpec.ofChange fnBestGuessesWrong)

/-- 'laws.FnNeedsOf': WHATEVER THE INPUT: true; the input reads as it did. -/
def fnNeedsOfSpec : ChangeSpec := { name := "fnNeedsOf", fn := fun _ => fun
  | [d] => { results := [.lit (.bool true)], args := [d] }
  | _ => none }
def fnNeedsOfRow : OpenClaim := { program := "ytcgpfdknadijlaa", sum := "df80aa9a5dce3d27464e2798734a72200d4c71cb51fc6da162f8cecf4d62e322", func := "loop.example/questiongames/laws.FnNeedsOf", spec := "fnNeedsOf", unfollowed := true, recurses := true, plainKeys := false, apart := false }
def FnNeedsOfSaid : Prop := fnNeedsOfRow.holds Try.pinned (OpenSpec.ofChange fnNeedsOfSpec)

/-- ITS FALSE NEIGHBOUR: 'it returns false'. Refute it at one input. -/
def fnNeedsOfWrong : ChangeSpec := { name := "fnNeedsOf", fn := fun _ => fun
  | [d] => { results := [.lit (.bool false)], args := [d] }
  | _ => none }
def FnNeedsOfWrongFalsely : Prop := fnNeedsOfRow.holds Try.pinned (OpenSpec.ofChange fnNeedsOfWrong)

/-- 'laws.FnPaidFor': WHATEVER THE INPUT: true; the input reads as it did. -/
def fnPaidForSpec : ChangeSpec := { name := "fnPaidFor", fn := fun _ => fun
  | [d] => { results := [.lit (.bool true)], args := [d] }
  | _ => none }
def fnPaidForRow : OpenClaim := { program := "ytcgpfdknadijlaa", sum := "df80aa9a5dce3d27464e2798734a72200d4c71cb51fc6da162f8cecf4d62e322", func := "loop.example/questiongames/laws.FnPaidFor", spec := "fnPaidFor", unfollowed := true, recurses := true, plainKeys := false, apart := false }
def FnPaidForSaid : Prop := fnPaidForRow.holds Try.pinned (OpenSpec.ofChange fnPaidForSpec)

/-- ITS FALSE NEIGHBOUR: 'it returns false'. Refute it at one input. -/
def fnPaidForWrong : ChangeSpec := { name := "fnPaidFor", fn := fun _ => fun
  | [d] => { results := [.lit (.bool false)], args := [d] }
  | _ => none }
def FnPaidForWrongFalsely : Prop := fnPaidForRow.holds Try.pinned (OpenSpec.ofChange fnPaidForWrong)

/- THE SECOND FORM. 'bulk': how many values and letters a reading holds, each counted each time it is reached (what is shared counts as often as it is met; a slice's spare places count too). A statement '..UptoSaid' is the law's where the arguments, and the package variables that the reading takes, are together of bulk at most 1048576: NARROWER than '..Said'. Prove '..Said' where nothing that the law and all that it calls make is longer than what came in: it says more and counts as full. Else prove '..UptoSaid'. A law counts once. -/
mutual
def uptoBulk {H : Type} : DataW H → Nat
  | .lit (.string bytes) => bytes.length + 1
  | .lit _ => 1
  | .nil => 1
  | .ptr d => uptoBulk d + 1
  | .slice elems spare => uptoBulkAll elems + uptoBulkAll spare + 1
  | .agg parts => uptoBulkAll parts + 1
  | .iface _ d => uptoBulk d + 1
  | .map entries => uptoBulkEntries entries + 1
  | .held _ => 1
def uptoBulkAll {H : Type} : List (DataW H) → Nat
  | [] => 0
  | d :: r => uptoBulk d + uptoBulkAll r
def uptoBulkEntries {H : Type} : List (Lit × DataW H) → Nat
  | [] => 0
  | x :: r => uptoBulkEntry x + uptoBulkEntries r
def uptoBulkEntry {H : Type} : Lit × DataW H → Nat
  | (.string bytes, d) => bytes.length + uptoBulk d + 1
  | (_, d) => uptoBulk d + 1
 end
def uptoSmall : (H : Type) → List (DataW H) → Bool := fun _ ds => decide (uptoBulkAll ds ≤ 1048576)
def OpenSpec.upto (s : _root_.Go.ChangeSpec) : _root_.Go.OpenSpec := { _root_.Go.OpenSpec.ofChange s with cond := some uptoSmall }

/-- 'laws.FnBestGuesses', WHERE WHAT IT READS IS OF BULK AT MOST 1048576: true; the input reads as it did. -/
def fnBestGuessesUptoRow : OpenClaim := { program := "ytcgpfdknadijlaa", sum := "df80aa9a5dce3d27464e2798734a72200d4c71cb51fc6da162f8cecf4d62e322", func := "loop.example/questiongames/laws.FnBestGuesses", spec := "fnBestGuesses", unfollowed := true, recurses := true, plainKeys := false, apart := false, narrowed := true }
def FnBestGuessesUptoSaid : Prop := fnBestGuessesUptoRow.holds Try.pinned (OpenSpec.upto fnBestGuessesSpec)

/-- 'laws.FnNeedsOf', WHERE WHAT IT READS IS OF BULK AT MOST 1048576: true; the input reads as it did. -/
def fnNeedsOfUptoRow : OpenClaim := { program := "ytcgpfdknadijlaa", sum := "df80aa9a5dce3d27464e2798734a72200d4c71cb51fc6da162f8cecf4d62e322", func := "loop.example/questiongames/laws.FnNeedsOf", spec := "fnNeedsOf", unfollowed := true, recurses := true, plainKeys := false, apart := false, narrowed := true }
def FnNeedsOfUptoSaid : Prop := fnNeedsOfUptoRow.holds Try.pinned (OpenSpec.upto fnNeedsOfSpec)

/-- 'laws.FnPaidFor', WHERE WHAT IT READS IS OF BULK AT MOST 1048576: true; the input reads as it did. -/
def fnPaidForUptoRow : OpenClaim := { program := "ytcgpfdknadijlaa", sum := "df80aa9a5dce3d27464e2798734a72200d4c71cb51fc6da162f8cecf4d62e322", func := "loop.example/questiongames/laws.FnPaidFor", spec := "fnPaidFor", unfollowed := true, recurses := true, plainKeys := false, apart := false, narrowed := true }
def FnPaidForUptoSaid : Prop := fnPaidForUptoRow.holds Try.pinned (OpenSpec.upto fnPaidForSpec)

end Rows
end Go.Proofs.Ytcgpfdknadijlaa
