/-
  No cell of these rows narrows 'for every input' (looked for: loops, veiled, ifaces, maps, wideKeys, modest, calm, conditions, laid).
  DERIVED. THE GIVEN ROWS OF THIS SEAT. 16 by the template 'for every input the law returns true; each argument reads behind the call as it read before'; 0 by the template 'total and deterministic' (their statements: YtahamfgkcnepgaaTotals.lean).
  GIVEN WITH THE SEED: the statements are not yours to turn. If you find one false, say at which input.
  Laid BY PROGRAM, IN A SANDBOX (cutbox-rows.mjs): the forced cells as the released guide's own fill.sh prints them over the translation 9b5e9fd3ba57df1a… (all of the seat's roots in one cut). By AI agents, Wed Nov 11 2026. No macro, syntax, notation, axiom, sorry.
-/
import Derived.Test.YtahamfgkcnepgaaChecked
import GoSem.Claim
import GoSem.ClaimJoined
import GoSem.ClaimMapViews
import Derived.JoinedTies
import Derived.KernelRfl
namespace Go.Proofs.Ytahamfgkcnepgaa
/- THE CELL 'sum', in the pinned program and in every row, IS THE sha256 OF THE DUMP (.gsa) THAT YtahamfgkcnepgaaProg.lean LOADS. Nothing in Lean hashes anything: it is a label: what it is worth is what the hold of that sum in a sandbox is worth. -/
noncomputable def Try.pinned : Pinned := { name := "ytahamfgkcnepgaa", sum := "9b5e9fd3ba57df1ad932c16d34e9c51f53df24dafccdf16e75e3400114a9779e", checked := Try.checked }
namespace Rows
def none {H : Type} : Left H := { results := [], args := [] }

/-- 'laws.FnExactFieldsOf': WHATEVER THE INPUT: true; the input reads as it did. -/
def fnExactFieldsOfSpec : ChangeSpec := { name := "fnExactFieldsOf", fn := fun _ => fun
  | [d1, d2] => { results := [.lit (.bool true)], args := [d1, d2] }
  | _ => none }
def fnExactFieldsOfRow : OpenClaim := { program := "ytahamfgkcnepgaa", sum := "9b5e9fd3ba57df1ad932c16d34e9c51f53df24dafccdf16e75e3400114a9779e", func := "loop.example/questiongames/laws.FnExactFieldsOf", spec := "fnExactFieldsOf", apart := false }
def FnExactFieldsOfSaid : Prop := fnExactFieldsOfRow.holds Try.pinned (OpenSpec.ofChange fnExactFieldsOfSpec)

/-- ITS FALSE NEIGHBOUR: 'it returns false'. Refute it at one input. -/
def fnExactFieldsOfWrong : ChangeSpec := { name := "fnExactFieldsOf", fn := fun _ => fun
  | [d1, d2] => { results := [.lit (.bool false)], args := [d1, d2] }
  | _ => none }
def FnExactFieldsOfWrongFalsely : Prop := fnExactFieldsOfRow.holds Try.pinned (OpenSpec.ofChange fnExactFieldsOfWrong)

/-- 'laws.FnExactShotsOk': WHATEVER THE INPUT: true; the input reads as it did. -/
def fnExactShotsOkSpec : ChangeSpec := { name := "fnExactShotsOk", fn := fun _ => fun
  | [d1, d2, d3] => { results := [.lit (.bool true)], args := [d1, d2, d3] }
  | _ => none }
def fnExactShotsOkRow : OpenClaim := { program := "ytahamfgkcnepgaa", sum := "9b5e9fd3ba57df1ad932c16d34e9c51f53df24dafccdf16e75e3400114a9779e", func := "loop.example/questiongames/laws.FnExactShotsOk", spec := "fnExactShotsOk", unfollowed := true, recurses := true, apart := false }
def FnExactShotsOkSaid : Prop := fnExactShotsOkRow.holds Try.pinned (OpenSpec.ofChange fnExactShotsOkSpec)

/-- ITS FALSE NEIGHBOUR: 'it returns false'. Refute it at one input. -/
def fnExactShotsOkWrong : ChangeSpec := { name := "fnExactShotsOk", fn := fun _ => fun
  | [d1, d2, d3] => { results := [.lit (.bool false)], args := [d1, d2, d3] }
  | _ => none }
def FnExactShotsOkWrongFalsely : Prop := fnExactShotsOkRow.holds Try.pinned (OpenSpec.ofChange fnExactShotsOkWrong)

/-- 'laws.FnExactPlacesOf': WHATEVER THE INPUT: true; the input reads as it did. -/
def fnExactPlacesOfSpec : ChangeSpec := { name := "fnExactPlacesOf", fn := fun _ => fun
  | [d1, d2, d3] => { results := [.lit (.bool true)], args := [d1, d2, d3] }
  | _ => none }
def fnExactPlacesOfRow : OpenClaim := { program := "ytahamfgkcnepgaa", sum := "9b5e9fd3ba57df1ad932c16d34e9c51f53df24dafccdf16e75e3400114a9779e", func := "loop.example/questiongames/laws.FnExactPlacesOf", spec := "fnExactPlacesOf", apart := false }
def FnExactPlacesOfSaid : Prop := fnExactPlacesOfRow.holds Try.pinned (OpenSpec.ofChange fnExactPlacesOfSpec)

/-- ITS FALSE NEIGHBOUR: 'it returns false'. Refute it at one input. -/
def fnExactPlacesOfWrong : ChangeSpec := { name := "fnExactPlacesOf", fn := fun _ => fun
  | [d1, d2, d3] => { results := [.lit (.bool false)], args := [d1, d2, d3] }
  | _ => none }
def FnExactPlacesOfWrongFalsely : Prop := fnExactPlacesOfRow.holds Try.pinned (OpenSpec.ofChange fnExactPlacesOfWrong)

/-- 'laws.FnExactDiagonalShots': WHATEVER THE INPUT: true; the input reads as it did. -/
def fnExactDiagonalShotsSpec : ChangeSpec := { name := "fnExactDiagonalShots", fn := fun _ => fun
  | [d1, d2, d3, d4] => { results := [.lit (.bool true)], args := [d1, d2, d3, d4] }
  | _ => none }
def fnExactDiagonalShotsRow : OpenClaim := { program := "ytahamfgkcnepgaa", sum := "9b5e9fd3ba57df1ad932c16d34e9c51f53df24dafccdf16e75e3400114a9779e", func := "loop.example/questiongames/laws.FnExactDiagonalShots", spec := "fnExactDiagonalShots", apart := false }
def FnExactDiagonalShotsSaid : Prop := fnExactDiagonalShotsRow.holds Try.pinned (OpenSpec.ofChange fnExactDiagonalShotsSpec)

/-- ITS FALSE NEIGHBOUR: 'it returns false'. Refute it at one input. -/
def fnExactDiagonalShotsWrong : ChangeSpec := { name := "fnExactDiagonalShots", fn := fun _ => fun
  | [d1, d2, d3, d4] => { results := [.lit (.bool false)], args := [d1, d2, d3, d4] }
  | _ => none }
def FnExactDiagonalShotsWrongFalsely : Prop := fnExactDiagonalShotsRow.holds Try.pinned (OpenSpec.ofChange fnExactDiagonalShotsWrong)

/-- 'laws.FnExactApartIn': WHATEVER THE INPUT: true; the input reads as it did. -/
def fnExactApartInSpec : ChangeSpec := { name := "fnExactApartIn", fn := fun _ => fun
  | [d1, d2, d3] => { results := [.lit (.bool true)], args := [d1, d2, d3] }
  | _ => none }
def fnExactApartInRow : OpenClaim := { program := "ytahamfgkcnepgaa", sum := "9b5e9fd3ba57df1ad932c16d34e9c51f53df24dafccdf16e75e3400114a9779e", func := "loop.example/questiongames/laws.FnExactApartIn", spec := "fnExactApartIn", apart := false }
def FnExactApartInSaid : Prop := fnExactApartInRow.holds Try.pinned (OpenSpec.ofChange fnExactApartInSpec)

/-- ITS FALSE NEIGHBOUR: 'it returns false'. Refute it at one input. -/
def fnExactApartInWrong : ChangeSpec := { name := "fnExactApartIn", fn := fun _ => fun
  | [d1, d2, d3] => { results := [.lit (.bool false)], args := [d1, d2, d3] }
  | _ => none }
def FnExactApartInWrongFalsely : Prop := fnExactApartInRow.holds Try.pinned (OpenSpec.ofChange fnExactApartInWrong)

/-- 'laws.FnExactShotsIn': WHATEVER THE INPUT: true; the input reads as it did. -/
def fnExactShotsInSpec : ChangeSpec := { name := "fnExactShotsIn", fn := fun _ => fun
  | [d1, d2, d3] => { results := [.lit (.bool true)], args := [d1, d2, d3] }
  | _ => none }
def fnExactShotsInRow : OpenClaim := { program := "ytahamfgkcnepgaa", sum := "9b5e9fd3ba57df1ad932c16d34e9c51f53df24dafccdf16e75e3400114a9779e", func := "loop.example/questiongames/laws.FnExactShotsIn", spec := "fnExactShotsIn", unfollowed := true, recurses := true, apart := false }
def FnExactShotsInSaid : Prop := fnExactShotsInRow.holds Try.pinned (OpenSpec.ofChange fnExactShotsInSpec)

/-- ITS FALSE NEIGHBOUR: 'it returns false'. Refute it at one input. -/
def fnExactShotsInWrong : ChangeSpec := { name := "fnExactShotsIn", fn := fun _ => fun
  | [d1, d2, d3] => { results := [.lit (.bool false)], args := [d1, d2, d3] }
  | _ => none }
def FnExactShotsInWrongFalsely : Prop := fnExactShotsInRow.holds Try.pinned (OpenSpec.ofChange fnExactShotsInWrong)

/-- 'laws.FnExactHitsOf': WHATEVER THE INPUT: true; the input reads as it did. -/
def fnExactHitsOfSpec : ChangeSpec := { name := "fnExactHitsOf", fn := fun _ => fun
  | [d1, d2, d3, d4, d5] => { results := [.lit (.bool true)], args := [d1, d2, d3, d4, d5] }
  | _ => none }
def fnExactHitsOfRow : OpenClaim := { program := "ytahamfgkcnepgaa", sum := "9b5e9fd3ba57df1ad932c16d34e9c51f53df24dafccdf16e75e3400114a9779e", func := "loop.example/questiongames/laws.FnExactHitsOf", spec := "fnExactHitsOf", unfollowed := true, recurses := true, apart := false }
def FnExactHitsOfSaid : Prop := fnExactHitsOfRow.holds Try.pinned (OpenSpec.ofChange fnExactHitsOfSpec)

/-- ITS FALSE NEIGHBOUR: 'it returns false'. Refute it at one input. -/
def fnExactHitsOfWrong : ChangeSpec := { name := "fnExactHitsOf", fn := fun _ => fun
  | [d1, d2, d3, d4, d5] => { results := [.lit (.bool false)], args := [d1, d2, d3, d4, d5] }
  | _ => none }
def FnExactHitsOfWrongFalsely : Prop := fnExactHitsOfRow.holds Try.pinned (OpenSpec.ofChange fnExactHitsOfWrong)

/-- 'laws.FnExactSureHit': WHATEVER THE INPUT: true; the input reads as it did. -/
def fnExactSureHitSpec : ChangeSpec := { name := "fnExactSureHit", fn := fun _ => fun
  | [d1, d2, d3, d4] => { results := [.lit (.bool true)], args := [d1, d2, d3, d4] }
  | _ => none }
def fnExactSureHitRow : OpenClaim := { program := "ytahamfgkcnepgaa", sum := "9b5e9fd3ba57df1ad932c16d34e9c51f53df24dafccdf16e75e3400114a9779e", func := "loop.example/questiongames/laws.FnExactSureHit", spec := "fnExactSureHit", unfollowed := true, recurses := true, apart := false }
def FnExactSureHitSaid : Prop := fnExactSureHitRow.holds Try.pinned (OpenSpec.ofChange fnExactSureHitSpec)

/-- ITS FALSE NEIGHBOUR: 'it returns false'. Refute it at one input. -/
def fnExactSureHitWrong : ChangeSpec := { name := "fnExactSureHit", fn := fun _ => fun
  | [d1, d2, d3, d4] => { results := [.lit (.bool false)], args := [d1, d2, d3, d4] }
  | _ => none }
def FnExactSureHitWrongFalsely : Prop := fnExactSureHitRow.holds Try.pinned (OpenSpec.ofChange fnExactSureHitWrong)

/-- 'laws.FnFieldsOf': WHATEVER THE INPUT: true; the input reads as it did. -/
def fnFieldsOfSpec : ChangeSpec := { name := "fnFieldsOf", fn := fun _ => fun
  | [d] => { results := [.lit (.bool true)], args := [d] }
  | _ => none }
def fnFieldsOfRow : OpenClaim := { program := "ytahamfgkcnepgaa", sum := "9b5e9fd3ba57df1ad932c16d34e9c51f53df24dafccdf16e75e3400114a9779e", func := "loop.example/questiongames/laws.FnFieldsOf", spec := "fnFieldsOf", apart := false }
def FnFieldsOfSaid : Prop := fnFieldsOfRow.holds Try.pinned (OpenSpec.ofChange fnFieldsOfSpec)

/-- ITS FALSE NEIGHBOUR: 'it returns false'. Refute it at one input. -/
def fnFieldsOfWrong : ChangeSpec := { name := "fnFieldsOf", fn := fun _ => fun
  | [d] => { results := [.lit (.bool false)], args := [d] }
  | _ => none }
def FnFieldsOfWrongFalsely : Prop := fnFieldsOfRow.holds Try.pinned (OpenSpec.ofChange fnFieldsOfWrong)

/-- 'laws.FnPlacesOf': WHATEVER THE INPUT: true; the input reads as it did. -/
def fnPlacesOfSpec : ChangeSpec := { name := "fnPlacesOf", fn := fun _ => fun
  | [d] => { results := [.lit (.bool true)], args := [d] }
  | _ => none }
def fnPlacesOfRow : OpenClaim := { program := "ytahamfgkcnepgaa", sum := "9b5e9fd3ba57df1ad932c16d34e9c51f53df24dafccdf16e75e3400114a9779e", func := "loop.example/questiongames/laws.FnPlacesOf", spec := "fnPlacesOf", apart := false }
def FnPlacesOfSaid : Prop := fnPlacesOfRow.holds Try.pinned (OpenSpec.ofChange fnPlacesOfSpec)

/-- ITS FALSE NEIGHBOUR: 'it returns false'. Refute it at one input. -/
def fnPlacesOfWrong : ChangeSpec := { name := "fnPlacesOf", fn := fun _ => fun
  | [d] => { results := [.lit (.bool false)], args := [d] }
  | _ => none }
def FnPlacesOfWrongFalsely : Prop := fnPlacesOfRow.holds Try.pinned (OpenSpec.ofChange fnPlacesOfWrong)

/-- 'laws.FnShotsOk': WHATEVER THE INPUT: true; the input reads as it did. -/
def fnShotsOkSpec : ChangeSpec := { name := "fnShotsOk", fn := fun _ => fun
  | [d] => { results := [.lit (.bool true)], args := [d] }
  | _ => none }
def fnShotsOkRow : OpenClaim := { program := "ytahamfgkcnepgaa", sum := "9b5e9fd3ba57df1ad932c16d34e9c51f53df24dafccdf16e75e3400114a9779e", func := "loop.example/questiongames/laws.FnShotsOk", spec := "fnShotsOk", unfollowed := true, recurses := true, apart := false }
def FnShotsOkSaid : Prop := fnShotsOkRow.holds Try.pinned (OpenSpec.ofChange fnShotsOkSpec)

/-- ITS FALSE NEIGHBOUR: 'it returns false'. Refute it at one input. -/
def fnShotsOkWrong : ChangeSpec := { name := "fnShotsOk", fn := fun _ => fun
  | [d] => { results := [.lit (.bool false)], args := [d] }
  | _ => none }
def FnShotsOkWrongFalsely : Prop := fnShotsOkRow.holds Try.pinned (OpenSpec.ofChange fnShotsOkWrong)

/-- 'laws.FnShotsIn': WHATEVER THE INPUT: true; the input reads as it did. -/
def fnShotsInSpec : ChangeSpec := { name := "fnShotsIn", fn := fun _ => fun
  | [d] => { results := [.lit (.bool true)], args := [d] }
  | _ => none }
def fnShotsInRow : OpenClaim := { program := "ytahamfgkcnepgaa", sum := "9b5e9fd3ba57df1ad932c16d34e9c51f53df24dafccdf16e75e3400114a9779e", func := "loop.example/questiongames/laws.FnShotsIn", spec := "fnShotsIn", unfollowed := true, recurses := true, apart := false }
def FnShotsInSaid : Prop := fnShotsInRow.holds Try.pinned (OpenSpec.ofChange fnShotsInSpec)

/-- ITS FALSE NEIGHBOUR: 'it returns false'. Refute it at one input. -/
def fnShotsInWrong : ChangeSpec := { name := "fnShotsIn", fn := fun _ => fun
  | [d] => { results := [.lit (.bool false)], args := [d] }
  | _ => none }
def FnShotsInWrongFalsely : Prop := fnShotsInRow.holds Try.pinned (OpenSpec.ofChange fnShotsInWrong)

/-- 'laws.FnHitsOf': WHATEVER THE INPUT: true; the input reads as it did. -/
def fnHitsOfSpec : ChangeSpec := { name := "fnHitsOf", fn := fun _ => fun
  | [d] => { results := [.lit (.bool true)], args := [d] }
  | _ => none }
def fnHitsOfRow : OpenClaim := { program := "ytahamfgkcnepgaa", sum := "9b5e9fd3ba57df1ad932c16d34e9c51f53df24dafccdf16e75e3400114a9779e", func := "loop.example/questiongames/laws.FnHitsOf", spec := "fnHitsOf", unfollowed := true, recurses := true, apart := false }
def FnHitsOfSaid : Prop := fnHitsOfRow.holds Try.pinned (OpenSpec.ofChange fnHitsOfSpec)

/-- ITS FALSE NEIGHBOUR: 'it returns false'. Refute it at one input. -/
def fnHitsOfWrong : ChangeSpec := { name := "fnHitsOf", fn := fun _ => fun
  | [d] => { results := [.lit (.bool false)], args := [d] }
  | _ => none }
def FnHitsOfWrongFalsely : Prop := fnHitsOfRow.holds Try.pinned (OpenSpec.ofChange fnHitsOfWrong)

/-- 'laws.FnApartIn': WHATEVER THE INPUT: true; the input reads as it did. -/
def fnApartInSpec : ChangeSpec := { name := "fnApartIn", fn := fun _ => fun
  | [d] => { results := [.lit (.bool true)], args := [d] }
  | _ => none }
def fnApartInRow : OpenClaim := { program := "ytahamfgkcnepgaa", sum := "9b5e9fd3ba57df1ad932c16d34e9c51f53df24dafccdf16e75e3400114a9779e", func := "loop.example/questiongames/laws.FnApartIn", spec := "fnApartIn", unfollowed := true, recurses := true, apart := false }
def FnApartInSaid : Prop := fnApartInRow.holds Try.pinned (OpenSpec.ofChange fnApartInSpec)

/-- ITS FALSE NEIGHBOUR: 'it returns false'. Refute it at one input. -/
def fnApartInWrong : ChangeSpec := { name := "fnApartIn", fn := fun _ => fun
  | [d] => { results := [.lit (.bool false)], args := [d] }
  | _ => none }
def FnApartInWrongFalsely : Prop := fnApartInRow.holds Try.pinned (OpenSpec.ofChange fnApartInWrong)

/-- 'laws.FnDiagonalShots': WHATEVER THE INPUT: true; the input reads as it did. -/
def fnDiagonalShotsSpec : ChangeSpec := { name := "fnDiagonalShots", fn := fun _ => fun
  | [d] => { results := [.lit (.bool true)], args := [d] }
  | _ => none }
def fnDiagonalShotsRow : OpenClaim := { program := "ytahamfgkcnepgaa", sum := "9b5e9fd3ba57df1ad932c16d34e9c51f53df24dafccdf16e75e3400114a9779e", func := "loop.example/questiongames/laws.FnDiagonalShots", spec := "fnDiagonalShots", unfollowed := true, recurses := true, apart := false }
def FnDiagonalShotsSaid : Prop := fnDiagonalShotsRow.holds Try.pinned (OpenSpec.ofChange fnDiagonalShotsSpec)

/-- ITS FALSE NEIGHBOUR: 'it returns false'. Refute it at one input. -/
def fnDiagonalShotsWrong : ChangeSpec := { name := "fnDiagonalShots", fn := fun _ => fun
  | [d] => { results := [.lit (.bool false)], args := [d] }
  | _ => none }
def FnDiagonalShotsWrongFalsely : Prop := fnDiagonalShotsRow.holds Try.pinned (OpenSpec.ofChange fnDiagonalShotsWrong)

/-- 'laws.FnStillAt': WHATEVER THE INPUT: true; the input reads as it did. -/
def fnStillAtSpec : ChangeSpec := { name := "fnStillAt", fn := fun _ => fun
  | [d] => { results := [.lit (.bool true)], args := [d] }
  | _ => none }
def fnStillAtRow : OpenClaim := { program := "ytahamfgkcnepgaa", sum := "9b5e9fd3ba57df1ad932c16d34e9c51f53df24dafccdf16e75e3400114a9779e", func := "loop.example/questiongames/laws.FnStillAt", spec := "fnStillAt", unfollowed := true, recurses := true, apart := false }
def FnStillAtSaid : Prop := fnStillAtRow.holds Try.pinned (OpenSpec.ofChange fnStillAtSpec)

/-- ITS FALSE NEIGHBOUR: 'it returns false'. Refute it at one input. -/
def fnStillAtWrong : ChangeSpec := { name := "fnStillAt", fn := fun _ => fun
  | [d] => { results := [.lit (.bool false)], args := [d] }
  | _ => none }
def FnStillAtWrongFalsely : Prop := fnStillAtRow.holds Try.pinned (OpenSpec.ofChange fnStillAtWrong)

/- THE SECOND FORM. 'bulk': how many values and letters a reading holds, each counted each time it is reached (what is shared counts as often as it is met; a slice's spare places count too). A statement '..UptoSaid' is the law's where the arguments, and the package variables that the reading takes, are together of bulk at most 1048576: NARROWER than '..Said'. Prove '..Said' where nothing that the law and all that it calls make is longer than what came in: it says more and counts as full. Else prove '..UptoSaid'. A law counts once. -/
mutual
def uptoBulk {H : Type} : DataW H → Nat
  | .lit (.string bytes) => bytes.length + 1
  | .lit _ => 1
  | .nil => 1
  | .ptr d => uptoBulk d + 1
  | .slice elems spare => uptoBulkAll elems + uptoBulkAll spare + 1
  | .agg parts => uptoBulkAll parts + 1
  | .iface _ d => uptoBulk d + 1
  | .map entries => uptoBulkEntries entries + 1
  | .held _ => 1
def uptoBulkAll {H : Type} : List (DataW H) → Nat
  | [] => 0
  | d :: r => uptoBulk d + uptoBulkAll r
def uptoBulkEntries {H : Type} : List (Lit × DataW H) → Nat
  | [] => 0
  | x :: r => uptoBulkEntry x + uptoBulkEntries r
def uptoBulkEntry {H : Type} : Lit × DataW H → Nat
  | (.string bytes, d) => bytes.length + uptoBulk d + 1
  | (_, d) => uptoBulk d + 1
 end
def uptoSmall : (H : Type) → List (DataW H) → Bool := fun _ ds => decide (uptoBulkAll ds ≤ 1048576)
def OpenSpec.upto (s : _root_.Go.ChangeSpec) : _root_.Go.OpenSpec := { _root_.Go.OpenSpec.ofChange s with cond := some uptoSmall }

/-- 'laws.FnExactFieldsOf', WHERE WHAT IT READS IS OF BULK AT MOST 1048576: true; the input reads as it did. -/
def fnExactFieldsOfUptoRow : OpenClaim := { program := "ytahamfgkcnepgaa", sum := "9b5e9fd3ba57df1ad932c16d34e9c51f53df24dafccdf16e75e3400114a9779e", func := "loop.example/questiongames/laws.FnExactFieldsOf", spec := "fnExactFieldsOf", apart := false, narrowed := true }
def FnExactFieldsOfUptoSaid : Prop := fnExactFieldsOfUptoRow.holds Try.pinned (OpenSpec.upto fnExactFieldsOfSpec)

/-- 'laws.FnExactShotsOk', WHERE WHAT IT READS IS OF BULK AT MOST 1048576: true; the input reads as it did. -/
def fnExactShotsOkUptoRow : OpenClaim := { program := "ytahamfgkcnepgaa", sum := "9b5e9fd3ba57df1ad932c16d34e9c51f53df24dafccdf16e75e3400114a9779e", func := "loop.example/questiongames/laws.FnExactShotsOk", spec := "fnExactShotsOk", unfollowed := true, recurses := true, apart := false, narrowed := true }
def FnExactShotsOkUptoSaid : Prop := fnExactShotsOkUptoRow.holds Try.pinned (OpenSpec.upto fnExactShotsOkSpec)

/-- 'laws.FnExactPlacesOf', WHERE WHAT IT READS IS OF BULK AT MOST 1048576: true; the input reads as it did. -/
def fnExactPlacesOfUptoRow : OpenClaim := { program := "ytahamfgkcnepgaa", sum := "9b5e9fd3ba57df1ad932c16d34e9c51f53df24dafccdf16e75e3400114a9779e", func := "loop.example/questiongames/laws.FnExactPlacesOf", spec := "fnExactPlacesOf", apart := false, narrowed := true }
def FnExactPlacesOfUptoSaid : Prop := fnExactPlacesOfUptoRow.holds Try.pinned (OpenSpec.upto fnExactPlacesOfSpec)

/-- 'laws.FnExactDiagonalShots', WHERE WHAT IT READS IS OF BULK AT MOST 1048576: true; the input reads as it did. -/
def fnExactDiagonalShotsUptoRow : OpenClaim := { program := "ytahamfgkcnepgaa", sum := "9b5e9fd3ba57df1ad932c16d34e9c51f53df24dafccdf16e75e3400114a9779e", func := "loop.example/questiongames/laws.FnExactDiagonalShots", spec := "fnExactDiagonalShots", apart := false, narrowed := true }
def FnExactDiagonalShotsUptoSaid : Prop := fnExactDiagonalShotsUptoRow.holds Try.pinned (OpenSpec.upto fnExactDiagonalShotsSpec)

/-- 'laws.FnExactApartIn', WHERE WHAT IT READS IS OF BULK AT MOST 1048576: true; the input reads as it did. -/
def fnExactApartInUptoRow : OpenClaim := { program := "ytahamfgkcnepgaa", sum := "9b5e9fd3ba57df1ad932c16d34e9c51f53df24dafccdf16e75e3400114a9779e", func := "loop.example/questiongames/laws.FnExactApartIn", spec := "fnExactApartIn", apart := false, narrowed := true }
def FnExactApartInUptoSaid : Prop := fnExactApartInUptoRow.holds Try.pinned (OpenSpec.upto fnExactApartInSpec)

/-- 'laws.FnExactShotsIn', WHERE WHAT IT READS IS OF BULK AT MOST 1048576: true; the input reads as it did. -/
def fnExactShotsInUptoRow : OpenClaim := { program := "ytahamfgkcnepgaa", sum := "9b5e9fd3ba57df1ad932c16d34e9c51f53df24dafccdf16e75e3400114a9779e", func := "loop.example/questiongames/laws.FnExactShotsIn", spec := "fnExactShotsIn", unfollowed := true, recurses := true, apart := false, narrowed := true }
def FnExactShotsInUptoSaid : Prop := fnExactShotsInUptoRow.holds Try.pinned (OpenSpec.upto fnExactShotsInSpec)

/-- 'laws.FnExactHitsOf', WHERE WHAT IT READS IS OF BULK AT MOST 1048576: true; the input reads as it did. -/
def fnExactHitsOfUptoRow : OpenClaim := { program := "ytahamfgkcnepgaa", sum := "9b5e9fd3ba57df1ad932c16d34e9c51f53df24dafccdf16e75e3400114a9779e", func := "loop.example/questiongames/laws.FnExactHitsOf", spec := "fnExactHitsOf", unfollowed := true, recurses := true, apart := false, narrowed := true }
def FnExactHitsOfUptoSaid : Prop := fnExactHitsOfUptoRow.holds Try.pinned (OpenSpec.upto fnExactHitsOfSpec)

/-- 'laws.FnExactSureHit', WHERE WHAT IT READS IS OF BULK AT MOST 1048576: true; the input reads as it did. -/
def fnExactSureHitUptoRow : OpenClaim := { program := "ytahamfgkcnepgaa", sum := "9b5e9fd3ba57df1ad932c16d34e9c51f53df24dafccdf16e75e3400114a9779e", func := "loop.example/questiongames/laws.FnExactSureHit", spec := "fnExactSureHit", unfollowed := true, recurses := true, apart := false, narrowed := true }
def FnExactSureHitUptoSaid : Prop := fnExactSureHitUptoRow.holds Try.pinned (OpenSpec.upto fnExactSureHitSpec)

/-- 'laws.FnFieldsOf', WHERE WHAT IT READS IS OF BULK AT MOST 1048576: true; the input reads as it did. -/
def fnFieldsOfUptoRow : OpenClaim := { program := "ytahamfgkcnepgaa", sum := "9b5e9fd3ba57df1ad932c16d34e9c51f53df24dafccdf16e75e3400114a9779e", func := "loop.example/questiongames/laws.FnFieldsOf", spec := "fnFieldsOf", apart := false, narrowed := true }
def FnFieldsOfUptoSaid : Prop := fnFieldsOfUptoRow.holds Try.pinned (OpenSpec.upto fnFieldsOfSpec)

/-- 'laws.FnPlacesOf', WHERE WHAT IT READS IS OF BULK AT MOST 1048576: true; the input reads as it did. -/
def fnPlacesOfUptoRow : OpenClaim := { program := "ytahamfgkcnepgaa", sum := "9b5e9fd3ba57df1ad932c16d34e9c51f53df24dafccdf16e75e3400114a9779e", func := "loop.example/questiongames/laws.FnPlacesOf", spec := "fnPlacesOf", apart := false, narrowed := true }
def FnPlacesOfUptoSaid : Prop := fnPlacesOfUptoRow.holds Try.pinned (OpenSpec.upto fnPlacesOfSpec)

/-- 'laws.FnShotsOk', WHERE WHAT IT READS IS OF BULK AT MOST 1048576: true; the input reads as it did. -/
def fnShotsOkUptoRow : OpenClaim := { program := "ytahamfgkcnepgaa", sum := "9b5e9fd3ba57df1ad932c16d34e9c51f53df24dafccdf16e75e3400114a9779e", func := "loop.example/questiongames/laws.FnShotsOk", spec := "fnShotsOk", unfollowed := true, recurses := true, apart := false, narrowed := true }
def FnShotsOkUptoSaid : Prop := fnShotsOkUptoRow.holds Try.pinned (OpenSpec.upto fnShotsOkSpec)

/-- 'laws.FnShotsIn', WHERE WHAT IT READS IS OF BULK AT MOST 1048576: true; the input reads as it did. -/
def fnShotsInUptoRow : OpenClaim := { program := "ytahamfgkcnepgaa", sum := "9b5e9fd3ba57df1ad932c16d34e9c51f53df24dafccdf16e75e3400114a9779e", func := "loop.example/questiongames/laws.FnShotsIn", spec := "fnShotsIn", unfollowed := true, recurses := true, apart := false, narrowed := true }
def FnShotsInUptoSaid : Prop := fnShotsInUptoRow.holds Try.pinned (OpenSpec.upto fnShotsInSpec)

/-- 'laws.FnHitsOf', WHERE WHAT IT READS IS OF BULK AT MOST 1048576: true; the input reads as it did. -/
def fnHitsOfUptoRow : OpenClaim := { program := "ytahamfgkcnepgaa", sum := "9b5e9fd3ba57df1ad932c16d34e9c51f53df24dafccdf16e75e3400114a9779e", func := "loop.example/questiongames/laws.FnHitsOf", spec := "fnHitsOf", unfollowed := true, recurses := true, apart := false, narrowed := true }
def FnHitsOfUptoSaid : Prop := fnHitsOfUptoRow.holds Try.pinned (OpenSpec.upto fnHitsOfSpec)

/-- 'laws.FnApartIn', WHERE WHAT IT READS IS OF BULK AT MOST 1048576: true; the input reads as it did. -/
def fnApartInUptoRow : OpenClaim := { program := "ytahamfgkcnepgaa", sum := "9b5e9fd3ba57df1ad932c16d34e9c51f53df24dafccdf16e75e3400114a9779e", func := "loop.example/questiongames/laws.FnApartIn", spec := "fnApartIn", unfollowed := true, recurses := true, apart := false, narrowed := true }
def FnApartInUptoSaid : Prop := fnApartInUptoRow.holds Try.pinned (OpenSpec.upto fnApartInSpec)

/-- 'laws.FnDiagonalShots', WHERE WHAT IT READS IS OF BULK AT MOST 1048576: true; the input reads as it did. -/
def fnDiagonalShotsUptoRow : OpenClaim := { program := "ytahamfgkcnepgaa", sum := "9b5e9fd3ba57df1ad932c16d34e9c51f53df24dafccdf16e75e3400114a9779e", func := "loop.example/questiongames/laws.FnDiagonalShots", spec := "fnDiagonalShots", unfollowed := true, recurses := true, apart := false, narrowed := true }
def FnDiagonalShotsUptoSaid : Prop := fnDiagonalShotsUptoRow.holds Try.pinned (OpenSpec.upto fnDiagonalShotsSpec)

/-- 'laws.FnStillAt', WHERE WHAT IT READS IS OF BULK AT MOST 1048576: true; the input reads as it did. -/
def fnStillAtUptoRow : OpenClaim := { program := "ytahamfgkcnepgaa", sum := "9b5e9fd3ba57df1ad932c16d34e9c51f53df24dafccdf16e75e3400114a9779e", func := "loop.example/questiongames/laws.FnStillAt", spec := "fnStillAt", unfollowed := true, recurses := true, apart := false, narrowed := true }
def FnStillAtUptoSaid : Prop := fnStillAtUptoRow.holds Try.pinned (OpenSpec.upto fnStillAtSpec)

end Rows
end Go.Proofs.Ytahamfgkcnepgaa
