/-
  No cell of these rows narrows 'for every input' (looked for: loops, veiled, ifaces, maps, wideKeys, modest, calm, conditions, laid).
  DERIVED. THE GIVEN ROWS OF THIS SEAT. 14 by the template 'for every input the law returns true; each argument reads behind the call as it read before'; 0 by the template 'total and deterministic' (their statements: YtdpijiccolbljaaTotals.lean).
  GIVEN WITH THE SEED: the statements are not yours to turn. If you find one false, say at which input.
  Laid BY PROGRAM, IN A SANDBOX (cutbox-rows.mjs): the forced cells as the released guide's own fill.sh prints them over the translation 1c7b2b01293c14be… (all of the seat's roots in one cut). By AI agents, Wed Nov 11 2026. No macro, syntax, notation, axiom, sorry.
-/
import Derived.Test.YtdpijiccolbljaaChecked
import GoSem.Claim
import GoSem.ClaimJoined
import GoSem.ClaimMapViews
import Derived.JoinedTies
import Derived.KernelRfl
namespace Go.Proofs.Ytdpijiccolbljaa
/- THE CELL 'sum', in the pinned program and in every row, IS THE sha256 OF THE DUMP (.gsa) THAT YtdpijiccolbljaaProg.lean LOADS. Nothing in Lean hashes anything: it is a label: what it is worth is what the hold of that sum in a sandbox is worth. -/
noncomputable def Try.pinned : Pinned := { name := "ytdpijiccolbljaa", sum := "1c7b2b01293c14bec58de7f9862939a30ad8b9c1c99bfb940ff4a9822cf92b0a", checked := Try.checked }
namespace Rows
def none {H : Type} : Left H := { results := [], args := [] }

/-- 'laws.FnExactBoxesOk': WHATEVER THE INPUT: true; the input reads as it did. -/
def fnExactBoxesOkSpec : ChangeSpec := { name := "fnExactBoxesOk", fn := fun _ => fun
  | [d] => { results := [.lit (.bool true)], args := [d] }
  | _ => none }
def fnExactBoxesOkRow : OpenClaim := { program := "ytdpijiccolbljaa", sum := "1c7b2b01293c14bec58de7f9862939a30ad8b9c1c99bfb940ff4a9822cf92b0a", func := "loop.example/questiongames/laws.FnExactBoxesOk", spec := "fnExactBoxesOk", apart := false }
def FnExactBoxesOkSaid : Prop := fnExactBoxesOkRow.holds Try.pinned (OpenSpec.ofChange fnExactBoxesOkSpec)

/-- ITS FALSE NEIGHBOUR: 'it returns false'. Refute it at one input. -/
def fnExactBoxesOkWrong : ChangeSpec := { name := "fnExactBoxesOk", fn := fun _ => fun
  | [d] => { results := [.lit (.bool false)], args := [d] }
  | _ => none }
def FnExactBoxesOkWrongFalsely : Prop := fnExactBoxesOkRow.holds Try.pinned (OpenSpec.ofChange fnExactBoxesOkWrong)

/-- 'laws.FnExactHelpFor': WHATEVER THE INPUT: true; the input reads as it did. -/
def fnExactHelpForSpec : ChangeSpec := { name := "fnExactHelpFor", fn := fun _ => fun
  | [d] => { results := [.lit (.bool true)], args := [d] }
  | _ => none }
def fnExactHelpForRow : OpenClaim := { program := "ytdpijiccolbljaa", sum := "1c7b2b01293c14bec58de7f9862939a30ad8b9c1c99bfb940ff4a9822cf92b0a", func := "loop.example/questiongames/laws.FnExactHelpFor", spec := "fnExactHelpFor", recurses := true, apart := false }
def FnExactHelpForSaid : Prop := fnExactHelpForRow.holds Try.pinned (OpenSpec.ofChange fnExactHelpForSpec)

/-- ITS FALSE NEIGHBOUR: 'it returns false'. Refute it at one input. -/
def fnExactHelpForWrong : ChangeSpec := { name := "fnExactHelpFor", fn := fun _ => fun
  | [d] => { results := [.lit (.bool false)], args := [d] }
  | _ => none }
def FnExactHelpForWrongFalsely : Prop := fnExactHelpForRow.holds Try.pinned (OpenSpec.ofChange fnExactHelpForWrong)

/-- 'laws.FnExactExchanged': WHATEVER THE INPUT: true; the input reads as it did. -/
def fnExactExchangedSpec : ChangeSpec := { name := "fnExactExchanged", fn := fun _ => fun
  | [d1, d2, d3] => { results := [.lit (.bool true)], args := [d1, d2, d3] }
  | _ => none }
def fnExactExchangedRow : OpenClaim := { program := "ytdpijiccolbljaa", sum := "1c7b2b01293c14bec58de7f9862939a30ad8b9c1c99bfb940ff4a9822cf92b0a", func := "loop.example/questiongames/laws.FnExactExchanged", spec := "fnExactExchanged", apart := false }
def FnExactExchangedSaid : Prop := fnExactExchangedRow.holds Try.pinned (OpenSpec.ofChange fnExactExchangedSpec)

/-- ITS FALSE NEIGHBOUR: 'it returns false'. Refute it at one input. -/
def fnExactExchangedWrong : ChangeSpec := { name := "fnExactExchanged", fn := fun _ => fun
  | [d1, d2, d3] => { results := [.lit (.bool false)], args := [d1, d2, d3] }
  | _ => none }
def FnExactExchangedWrongFalsely : Prop := fnExactExchangedRow.holds Try.pinned (OpenSpec.ofChange fnExactExchangedWrong)

/-- 'laws.FnExactOpenedBy': WHATEVER THE INPUT: true; the input reads as it did. -/
def fnExactOpenedBySpec : ChangeSpec := { name := "fnExactOpenedBy", fn := fun _ => fun
  | [d1, d2] => { results := [.lit (.bool true)], args := [d1, d2] }
  | _ => none }
def fnExactOpenedByRow : OpenClaim := { program := "ytdpijiccolbljaa", sum := "1c7b2b01293c14bec58de7f9862939a30ad8b9c1c99bfb940ff4a9822cf92b0a", func := "loop.example/questiongames/laws.FnExactOpenedBy", spec := "fnExactOpenedBy", apart := false }
def FnExactOpenedBySaid : Prop := fnExactOpenedByRow.holds Try.pinned (OpenSpec.ofChange fnExactOpenedBySpec)

/-- ITS FALSE NEIGHBOUR: 'it returns false'. Refute it at one input. -/
def fnExactOpenedByWrong : ChangeSpec := { name := "fnExactOpenedBy", fn := fun _ => fun
  | [d1, d2] => { results := [.lit (.bool false)], args := [d1, d2] }
  | _ => none }
def FnExactOpenedByWrongFalsely : Prop := fnExactOpenedByRow.holds Try.pinned (OpenSpec.ofChange fnExactOpenedByWrong)

/-- 'laws.FnExactAllFind': WHATEVER THE INPUT: true; the input reads as it did. -/
def fnExactAllFindSpec : ChangeSpec := { name := "fnExactAllFind", fn := fun _ => fun
  | [d1, d2] => { results := [.lit (.bool true)], args := [d1, d2] }
  | _ => none }
def fnExactAllFindRow : OpenClaim := { program := "ytdpijiccolbljaa", sum := "1c7b2b01293c14bec58de7f9862939a30ad8b9c1c99bfb940ff4a9822cf92b0a", func := "loop.example/questiongames/laws.FnExactAllFind", spec := "fnExactAllFind", recurses := true, apart := false }
def FnExactAllFindSaid : Prop := fnExactAllFindRow.holds Try.pinned (OpenSpec.ofChange fnExactAllFindSpec)

/-- ITS FALSE NEIGHBOUR: 'it returns false'. Refute it at one input. -/
def fnExactAllFindWrong : ChangeSpec := { name := "fnExactAllFind", fn := fun _ => fun
  | [d1, d2] => { results := [.lit (.bool false)], args := [d1, d2] }
  | _ => none }
def FnExactAllFindWrongFalsely : Prop := fnExactAllFindRow.holds Try.pinned (OpenSpec.ofChange fnExactAllFindWrong)

/-- 'laws.FnExactCirclesOf': WHATEVER THE INPUT: true; the input reads as it did. -/
def fnExactCirclesOfSpec : ChangeSpec := { name := "fnExactCirclesOf", fn := fun _ => fun
  | [d] => { results := [.lit (.bool true)], args := [d] }
  | _ => none }
def fnExactCirclesOfRow : OpenClaim := { program := "ytdpijiccolbljaa", sum := "1c7b2b01293c14bec58de7f9862939a30ad8b9c1c99bfb940ff4a9822cf92b0a", func := "loop.example/questiongames/laws.FnExactCirclesOf", spec := "fnExactCirclesOf", recurses := true, apart := false }
def FnExactCirclesOfSaid : Prop := fnExactCirclesOfRow.holds Try.pinned (OpenSpec.ofChange fnExactCirclesOfSpec)

/-- ITS FALSE NEIGHBOUR: 'it returns false'. Refute it at one input. -/
def fnExactCirclesOfWrong : ChangeSpec := { name := "fnExactCirclesOf", fn := fun _ => fun
  | [d] => { results := [.lit (.bool false)], args := [d] }
  | _ => none }
def FnExactCirclesOfWrongFalsely : Prop := fnExactCirclesOfRow.holds Try.pinned (OpenSpec.ofChange fnExactCirclesOfWrong)

/-- 'laws.FnExactOrdersWon': WHATEVER THE INPUT: true; the input reads as it did. -/
def fnExactOrdersWonSpec : ChangeSpec := { name := "fnExactOrdersWon", fn := fun _ => fun
  | [d1, d2] => { results := [.lit (.bool true)], args := [d1, d2] }
  | _ => none }
def fnExactOrdersWonRow : OpenClaim := { program := "ytdpijiccolbljaa", sum := "1c7b2b01293c14bec58de7f9862939a30ad8b9c1c99bfb940ff4a9822cf92b0a", func := "loop.example/questiongames/laws.FnExactOrdersWon", spec := "fnExactOrdersWon", unfollowed := true, recurses := true, apart := false }
def FnExactOrdersWonSaid : Prop := fnExactOrdersWonRow.holds Try.pinned (OpenSpec.ofChange fnExactOrdersWonSpec)

/-- ITS FALSE NEIGHBOUR: 'it returns false'. Refute it at one input. -/
def fnExactOrdersWonWrong : ChangeSpec := { name := "fnExactOrdersWon", fn := fun _ => fun
  | [d1, d2] => { results := [.lit (.bool false)], args := [d1, d2] }
  | _ => none }
def FnExactOrdersWonWrongFalsely : Prop := fnExactOrdersWonRow.holds Try.pinned (OpenSpec.ofChange fnExactOrdersWonWrong)

/-- 'laws.FnBoxesOk': WHATEVER THE INPUT: true; the input reads as it did. -/
def fnBoxesOkSpec : ChangeSpec := { name := "fnBoxesOk", fn := fun _ => fun
  | [d] => { results := [.lit (.bool true)], args := [d] }
  | _ => none }
def fnBoxesOkRow : OpenClaim := { program := "ytdpijiccolbljaa", sum := "1c7b2b01293c14bec58de7f9862939a30ad8b9c1c99bfb940ff4a9822cf92b0a", func := "loop.example/questiongames/laws.FnBoxesOk", spec := "fnBoxesOk", apart := false }
def FnBoxesOkSaid : Prop := fnBoxesOkRow.holds Try.pinned (OpenSpec.ofChange fnBoxesOkSpec)

/-- ITS FALSE NEIGHBOUR: 'it returns false'. Refute it at one input. -/
def fnBoxesOkWrong : ChangeSpec := { name := "fnBoxesOk", fn := fun _ => fun
  | [d] => { results := [.lit (.bool false)], args := [d] }
  | _ => none }
def FnBoxesOkWrongFalsely : Prop := fnBoxesOkRow.holds Try.pinned (OpenSpec.ofChange fnBoxesOkWrong)

/-- 'laws.FnHelpFor': WHATEVER THE INPUT: true; the input reads as it did. -/
def fnHelpForSpec : ChangeSpec := { name := "fnHelpFor", fn := fun _ => fun
  | [d] => { results := [.lit (.bool true)], args := [d] }
  | _ => none }
def fnHelpForRow : OpenClaim := { program := "ytdpijiccolbljaa", sum := "1c7b2b01293c14bec58de7f9862939a30ad8b9c1c99bfb940ff4a9822cf92b0a", func := "loop.example/questiongames/laws.FnHelpFor", spec := "fnHelpFor", recurses := true, apart := false }
def FnHelpForSaid : Prop := fnHelpForRow.holds Try.pinned (OpenSpec.ofChange fnHelpForSpec)

/-- ITS FALSE NEIGHBOUR: 'it returns false'. Refute it at one input. -/
def fnHelpForWrong : ChangeSpec := { name := "fnHelpFor", fn := fun _ => fun
  | [d] => { results := [.lit (.bool false)], args := [d] }
  | _ => none }
def FnHelpForWrongFalsely : Prop := fnHelpForRow.holds Try.pinned (OpenSpec.ofChange fnHelpForWrong)

/-- 'laws.FnOpenedBy': WHATEVER THE INPUT: true; the input reads as it did. -/
def fnOpenedBySpec : ChangeSpec := { name := "fnOpenedBy", fn := fun _ => fun
  | [d] => { results := [.lit (.bool true)], args := [d] }
  | _ => none }
def fnOpenedByRow : OpenClaim := { program := "ytdpijiccolbljaa", sum := "1c7b2b01293c14bec58de7f9862939a30ad8b9c1c99bfb940ff4a9822cf92b0a", func := "loop.example/questiongames/laws.FnOpenedBy", spec := "fnOpenedBy", apart := false }
def FnOpenedBySaid : Prop := fnOpenedByRow.holds Try.pinned (OpenSpec.ofChange fnOpenedBySpec)

/-- ITS FALSE NEIGHBOUR: 'it returns false'. Refute it at one input. -/
def fnOpenedByWrong : ChangeSpec := { name := "fnOpenedBy", fn := fun _ => fun
  | [d] => { results := [.lit (.bool false)], args := [d] }
  | _ => none }
def FnOpenedByWrongFalsely : Prop := fnOpenedByRow.holds Try.pinned (OpenSpec.ofChange fnOpenedByWrong)

/-- 'laws.FnOrdersWon': WHATEVER THE INPUT: true; the input reads as it did. -/
def fnOrdersWonSpec : ChangeSpec := { name := "fnOrdersWon", fn := fun _ => fun
  | [d] => { results := [.lit (.bool true)], args := [d] }
  | _ => none }
def fnOrdersWonRow : OpenClaim := { program := "ytdpijiccolbljaa", sum := "1c7b2b01293c14bec58de7f9862939a30ad8b9c1c99bfb940ff4a9822cf92b0a", func := "loop.example/questiongames/laws.FnOrdersWon", spec := "fnOrdersWon", unfollowed := true, recurses := true, apart := false }
def FnOrdersWonSaid : Prop := fnOrdersWonRow.holds Try.pinned (OpenSpec.ofChange fnOrdersWonSpec)

/-- ITS FALSE NEIGHBOUR: 'it returns false'. Refute it at one input. -/
def fnOrdersWonWrong : ChangeSpec := { name := "fnOrdersWon", fn := fun _ => fun
  | [d] => { results := [.lit (.bool false)], args := [d] }
  | _ => none }
def FnOrdersWonWrongFalsely : Prop := fnOrdersWonRow.holds Try.pinned (OpenSpec.ofChange fnOrdersWonWrong)

/-- 'laws.FnExchanged': WHATEVER THE INPUT: true; the input reads as it did. -/
def fnExchangedSpec : ChangeSpec := { name := "fnExchanged", fn := fun _ => fun
  | [d] => { results := [.lit (.bool true)], args := [d] }
  | _ => none }
def fnExchangedRow : OpenClaim := { program := "ytdpijiccolbljaa", sum := "1c7b2b01293c14bec58de7f9862939a30ad8b9c1c99bfb940ff4a9822cf92b0a", func := "loop.example/questiongames/laws.FnExchanged", spec := "fnExchanged", recurses := true, apart := false }
def FnExchangedSaid : Prop := fnExchangedRow.holds Try.pinned (OpenSpec.ofChange fnExchangedSpec)

/-- ITS FALSE NEIGHBOUR: 'it returns false'. Refute it at one input. -/
def fnExchangedWrong : ChangeSpec := { name := "fnExchanged", fn := fun _ => fun
  | [d] => { results := [.lit (.bool false)], args := [d] }
  | _ => none }
def FnExchangedWrongFalsely : Prop := fnExchangedRow.holds Try.pinned (OpenSpec.ofChange fnExchangedWrong)

/-- 'laws.FnAllFind': WHATEVER THE INPUT: true; the input reads as it did. -/
def fnAllFindSpec : ChangeSpec := { name := "fnAllFind", fn := fun _ => fun
  | [d] => { results := [.lit (.bool true)], args := [d] }
  | _ => none }
def fnAllFindRow : OpenClaim := { program := "ytdpijiccolbljaa", sum := "1c7b2b01293c14bec58de7f9862939a30ad8b9c1c99bfb940ff4a9822cf92b0a", func := "loop.example/questiongames/laws.FnAllFind", spec := "fnAllFind", recurses := true, apart := false }
def FnAllFindSaid : Prop := fnAllFindRow.holds Try.pinned (OpenSpec.ofChange fnAllFindSpec)

/-- ITS FALSE NEIGHBOUR: 'it returns false'. Refute it at one input. -/
def fnAllFindWrong : ChangeSpec := { name := "fnAllFind", fn := fun _ => fun
  | [d] => { results := [.lit (.bool false)], args := [d] }
  | _ => none }
def FnAllFindWrongFalsely : Prop := fnAllFindRow.holds Try.pinned (OpenSpec.ofChange fnAllFindWrong)

/-- 'laws.FnCirclesOf': WHATEVER THE INPUT: true; the input reads as it did. -/
def fnCirclesOfSpec : ChangeSpec := { name := "fnCirclesOf", fn := fun _ => fun
  | [d] => { results := [.lit (.bool true)], args := [d] }
  | _ => none }
def fnCirclesOfRow : OpenClaim := { program := "ytdpijiccolbljaa", sum := "1c7b2b01293c14bec58de7f9862939a30ad8b9c1c99bfb940ff4a9822cf92b0a", func := "loop.example/questiongames/laws.FnCirclesOf", spec := "fnCirclesOf", recurses := true, apart := false }
def FnCirclesOfSaid : Prop := fnCirclesOfRow.holds Try.pinned (OpenSpec.ofChange fnCirclesOfSpec)

/-- ITS FALSE NEIGHBOUR: 'it returns false'. Refute it at one input. -/
def fnCirclesOfWrong : ChangeSpec := { name := "fnCirclesOf", fn := fun _ => fun
  | [d] => { results := [.lit (.bool false)], args := [d] }
  | _ => none }
def FnCirclesOfWrongFalsely : Prop := fnCirclesOfRow.holds Try.pinned (OpenSpec.ofChange fnCirclesOfWrong)

/- THE SECOND FORM. 'bulk': how many values and letters a reading holds, each counted each time it is reached (what is shared counts as often as it is met; a slice's spare places count too). A statement '..UptoSaid' is the law's where the arguments, and the package variables that the reading takes, are together of bulk at most 1048576: NARROWER than '..Said'. Prove '..Said' where nothing that the law and all that it calls make is longer than what came in: it says more and counts as full. Else prove '..UptoSaid'. A law counts once. -/
mutual
def uptoBulk {H : Type} : DataW H → Nat
  | .lit (.string bytes) => bytes.length + 1
  | .lit _ => 1
  | .nil => 1
  | .ptr d => uptoBulk d + 1
  | .slice elems spare => uptoBulkAll elems + uptoBulkAll spare + 1
  | .agg parts => uptoBulkAll parts + 1
  | .iface _ d => uptoBulk d + 1
  | .map entries => uptoBulkEntries entries + 1
  | .held _ => 1
def uptoBulkAll {H : Type} : List (DataW H) → Nat
  | [] => 0
  | d :: r => uptoBulk d + uptoBulkAll r
def uptoBulkEntries {H : Type} : List (Lit × DataW H) → Nat
  | [] => 0
  | x :: r => uptoBulkEntry x + uptoBulkEntries r
def uptoBulkEntry {H : Type} : Lit × DataW H → Nat
  | (.string bytes, d) => bytes.length + uptoBulk d + 1
  | (_, d) => uptoBulk d + 1
 end
def uptoSmall : (H : Type) → List (DataW H) → Bool := fun _ ds => decide (uptoBulkAll ds ≤ 1048576)
def OpenSpec.upto (s : _root_.Go.ChangeSpec) : _root_.Go.OpenSpec := { _root_.Go.OpenSpec.ofChange s with cond := some uptoSmall }

/-- 'laws.FnExactBoxesOk', WHERE WHAT IT READS IS OF BULK AT MOST 1048576: true; the input reads as it did. -/
def fnExactBoxesOkUptoRow : OpenClaim := { program := "ytdpijiccolbljaa", sum := "1c7b2b01293c14bec58de7f9862939a30ad8b9c1c99bfb940ff4a9822cf92b0a", func := "loop.example/questiongames/laws.FnExactBoxesOk", spec := "fnExactBoxesOk", apart := false, narrowed := true }
def FnExactBoxesOkUptoSaid : Prop := fnExactBoxesOkUptoRow.holds Try.pinned (OpenSpec.upto fnExactBoxesOkSpec)

/-- 'laws.FnExactHelpFor', WHERE WHAT IT READS IS OF BULK AT MOST 1048576: true; the input reads as it did. -/
def fnExactHelpForUptoRow : OpenClaim := { program := "ytdpijiccolbljaa", sum := "1c7b2b01293c14bec58de7f9862939a30ad8b9c1c99bfb940ff4a9822cf92b0a", func := "loop.example/questiongames/laws.FnExactHelpFor", spec := "fnExactHelpFor", recurses := true, apart := false, narrowed := true }
def FnExactHelpForUptoSaid : Prop := fnExactHelpForUptoRow.holds Try.pinned (OpenSpec.upto fnExactHelpForSpec)

/-- 'laws.FnExactExchanged', WHERE WHAT IT READS IS OF BULK AT MOST 1048576: true; the input reads as it did. -/
def fnExactExchangedUptoRow : OpenClaim := { program := "ytdpijiccolbljaa", sum := "1c7b2b01293c14bec58de7f9862939a30ad8b9c1c99bfb940ff4a9822cf92b0a", func := "loop.example/questiongames/laws.FnExactExchanged", spec := "fnExactExchanged", apart := false, narrowed := true }
def FnExactExchangedUptoSaid : Prop := fnExactExchangedUptoRow.holds Try.pinned (OpenSpec.upto fnExactExchangedSpec)

/-- 'laws.FnExactOpenedBy', WHERE WHAT IT READS IS OF BULK AT MOST 1048576: true; the input reads as it did. -/
def fnExactOpenedByUptoRow : OpenClaim := { program := "ytdpijiccolbljaa", sum := "1c7b2b01293c14bec58de7f9862939a30ad8b9c1c99bfb940ff4a9822cf92b0a", func := "loop.example/questiongames/laws.FnExactOpenedBy", spec := "fnExactOpenedBy", apart := false, narrowed := true }
def FnExactOpenedByUptoSaid : Prop := fnExactOpenedByUptoRow.holds Try.pinned (OpenSpec.upto fnExactOpenedBySpec)

/-- 'laws.FnExactAllFind', WHERE WHAT IT READS IS OF BULK AT MOST 1048576: true; the input reads as it did. -/
def fnExactAllFindUptoRow : OpenClaim := { program := "ytdpijiccolbljaa", sum := "1c7b2b01293c14bec58de7f9862939a30ad8b9c1c99bfb940ff4a9822cf92b0a", func := "loop.example/questiongames/laws.FnExactAllFind", spec := "fnExactAllFind", recurses := true, apart := false, narrowed := true }
def FnExactAllFindUptoSaid : Prop := fnExactAllFindUptoRow.holds Try.pinned (OpenSpec.upto fnExactAllFindSpec)

/-- 'laws.FnExactCirclesOf', WHERE WHAT IT READS IS OF BULK AT MOST 1048576: true; the input reads as it did. -/
def fnExactCirclesOfUptoRow : OpenClaim := { program := "ytdpijiccolbljaa", sum := "1c7b2b01293c14bec58de7f9862939a30ad8b9c1c99bfb940ff4a9822cf92b0a", func := "loop.example/questiongames/laws.FnExactCirclesOf", spec := "fnExactCirclesOf", recurses := true, apart := false, narrowed := true }
def FnExactCirclesOfUptoSaid : Prop := fnExactCirclesOfUptoRow.holds Try.pinned (OpenSpec.upto fnExactCirclesOfSpec)

/-- 'laws.FnExactOrdersWon', WHERE WHAT IT READS IS OF BULK AT MOST 1048576: true; the input reads as it did. -/
def fnExactOrdersWonUptoRow : OpenClaim := { program := "ytdpijiccolbljaa", sum := "1c7b2b01293c14bec58de7f9862939a30ad8b9c1c99bfb940ff4a9822cf92b0a", func := "loop.example/questiongames/laws.FnExactOrdersWon", spec := "fnExactOrdersWon", unfollowed := true, recurses := true, apart := false, narrowed := true }
def FnExactOrdersWonUptoSaid : Prop := fnExactOrdersWonUptoRow.holds Try.pinned (OpenSpec.upto fnExactOrdersWonSpec)

/-- 'laws.FnBoxesOk', WHERE WHAT IT READS IS OF BULK AT MOST 1048576: true; the input reads as it did. -/
def fnBoxesOkUptoRow : OpenClaim := { program := "ytdpijiccolbljaa", sum := "1c7b2b01293c14bec58de7f9862939a30ad8b9c1c99bfb940ff4a9822cf92b0a", func := "loop.example/questiongames/laws.FnBoxesOk", spec := "fnBoxesOk", apart := false, narrowed := true }
def FnBoxesOkUptoSaid : Prop := fnBoxesOkUptoRow.holds Try.pinned (OpenSpec.upto fnBoxesOkSpec)

/-- 'laws.FnHelpFor', WHERE WHAT IT READS IS OF BULK AT MOST 1048576: true; the input reads as it did. -/
def fnHelpForUptoRow : OpenClaim := { program := "ytdpijiccolbljaa", sum := "1c7b2b01293c14bec58de7f9862939a30ad8b9c1c99bfb940ff4a9822cf92b0a", func := "loop.example/questiongames/laws.FnHelpFor", spec := "fnHelpFor", recurses := true, apart := false, narrowed := true }
def FnHelpForUptoSaid : Prop := fnHelpForUptoRow.holds Try.pinned (OpenSpec.upto fnHelpForSpec)

/-- 'laws.FnOpenedBy', WHERE WHAT IT READS IS OF BULK AT MOST 1048576: true; the input reads as it did. -/
def fnOpenedByUptoRow : OpenClaim := { program := "ytdpijiccolbljaa", sum := "1c7b2b01293c14bec58de7f9862939a30ad8b9c1c99bfb940ff4a9822cf92b0a", func := "loop.example/questiongames/laws.FnOpenedBy", spec := "fnOpenedBy", apart := false, narrowed := true }
def FnOpenedByUptoSaid : Prop := fnOpenedByUptoRow.holds Try.pinned (OpenSpec.upto fnOpenedBySpec)

/-- 'laws.FnOrdersWon', WHERE WHAT IT READS IS OF BULK AT MOST 1048576: true; the input reads as it did. -/
def fnOrdersWonUptoRow : OpenClaim := { program := "ytdpijiccolbljaa", sum := "1c7b2b01293c14bec58de7f9862939a30ad8b9c1c99bfb940ff4a9822cf92b0a", func := "loop.example/questiongames/laws.FnOrdersWon", spec := "fnOrdersWon", unfollowed := true, recurses := true, apart := false, narrowed := true }
def FnOrdersWonUptoSaid : Prop := fnOrdersWonUptoRow.holds Try.pinned (OpenSpec.upto fnOrdersWonSpec)

/-- 'laws.FnExchanged', WHERE WHAT IT READS IS OF BULK AT MOST 1048576: true; the input reads as it did. -/
def fnExchangedUptoRow : OpenClaim := { program := "ytdpijiccolbljaa", sum := "1c7b2b01293c14bec58de7f9862939a30ad8b9c1c99bfb940ff4a9822cf92b0a", func := "loop.example/questiongames/laws.FnExchanged", spec := "fnExchanged", recurses := true, apart := false, narrowed := true }
def FnExchangedUptoSaid : Prop := fnExchangedUptoRow.holds Try.pinned (OpenSpec.upto fnExchangedSpec)

/-- 'laws.FnAllFind', WHERE WHAT IT READS IS OF BULK AT MOST 1048576: true; the input reads as it did. -/
def fnAllFindUptoRow : OpenClaim := { program := "ytdpijiccolbljaa", sum := "1c7b2b01293c14bec58de7f9862939a30ad8b9c1c99bfb940ff4a9822cf92b0a", func := "loop.example/questiongames/laws.FnAllFind", spec := "fnAllFind", recurses := true, apart := false, narrowed := true }
def FnAllFindUptoSaid : Prop := fnAllFindUptoRow.holds Try.pinned (OpenSpec.upto fnAllFindSpec)

/-- 'laws.FnCirclesOf', WHERE WHAT IT READS IS OF BULK AT MOST 1048576: true; the input reads as it did. -/
def fnCirclesOfUptoRow : OpenClaim := { program := "ytdpijiccolbljaa", sum := "1c7b2b01293c14bec58de7f9862939a30ad8b9c1c99bfb940ff4a9822cf92b0a", func := "loop.example/questiongames/laws.FnCirclesOf", spec := "fnCirclesOf", recurses := true, apart := false, narrowed := true }
def FnCirclesOfUptoSaid : Prop := fnCirclesOfUptoRow.holds Try.pinned (OpenSpec.upto fnCirclesOfSpec)

end Rows
end Go.Proofs.Ytdpijiccolbljaa
