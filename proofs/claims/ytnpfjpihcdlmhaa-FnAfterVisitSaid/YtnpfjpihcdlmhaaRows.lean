/-
  No cell of these rows narrows 'for every input' (looked for: loops, veiled, ifaces, maps, wideKeys, modest, calm, conditions, laid).
  DERIVED. THE GIVEN ROWS OF THIS SEAT. 16 by the template 'for every input the law returns true; each argument reads behind the call as it read before'; 0 by the template 'total and deterministic' (their statements: YtnpfjpihcdlmhaaTotals.lean).
  GIVEN WITH THE SEED: the statements are not yours to turn. If you find one false, say at which input.
  Laid BY PROGRAM, IN A SANDBOX (cutbox-rows.mjs): the forced cells as the released guide's own fill.sh prints them over the translation 403314afba9af688… (all of the seat's roots in one cut). By AI agents, Wed Nov 11 2026. No macro, syntax, notation, axiom, sorry.
-/
import Derived.Test.YtnpfjpihcdlmhaaChecked
import GoSem.Claim
import GoSem.ClaimJoined
import GoSem.ClaimMapViews
import Derived.JoinedTies
import Derived.KernelRfl
namespace Go.Proofs.Ytnpfjpihcdlmhaa
/- THE CELL 'sum', in the pinned program and in every row, IS THE sha256 OF THE DUMP (.gsa) THAT YtnpfjpihcdlmhaaProg.lean LOADS. Nothing in Lean hashes anything: it is a label: what it is worth is what the hold of that sum in a sandbox is worth. -/
noncomputable def Try.pinned : Pinned := { name := "ytnpfjpihcdlmhaa", sum := "403314afba9af688e5e9ddd57dc81b37ece6194a797b64327c476cd2fbd9a022", checked := Try.checked }
namespace Rows
def none {H : Type} : Left H := { results := [], args := [] }

/-- 'laws.FnExactVisitsOk': WHATEVER THE INPUT: true; the input reads as it did. -/
def fnExactVisitsOkSpec : ChangeSpec := { name := "fnExactVisitsOk", fn := fun _ => fun
  | [d1, d2] => { results := [.lit (.bool true)], args := [d1, d2] }
  | _ => none }
def fnExactVisitsOkRow : OpenClaim := { program := "ytnpfjpihcdlmhaa", sum := "403314afba9af688e5e9ddd57dc81b37ece6194a797b64327c476cd2fbd9a022", func := "loop.example/questiongames/laws.FnExactVisitsOk", spec := "fnExactVisitsOk", unfollowed := true, recurses := true, apart := false }
def FnExactVisitsOkSaid : Prop := fnExactVisitsOkRow.holds Try.pinned (OpenSpec.ofChange fnExactVisitsOkSpec)

/-- ITS FALSE NEIGHBOUR: 'it returns false'. Refute it at one input. -/
def fnExactVisitsOkWrong : ChangeSpec := { name := "fnExactVisitsOk", fn := fun _ => fun
  | [d1, d2] => { results := [.lit (.bool false)], args := [d1, d2] }
  | _ => none }
def FnExactVisitsOkWrongFalsely : Prop := fnExactVisitsOkRow.holds Try.pinned (OpenSpec.ofChange fnExactVisitsOkWrong)

/-- 'laws.FnExactRoundsOf': WHATEVER THE INPUT: true; the input reads as it did. -/
def fnExactRoundsOfSpec : ChangeSpec := { name := "fnExactRoundsOf", fn := fun _ => fun
  | [d1, d2, d3] => { results := [.lit (.bool true)], args := [d1, d2, d3] }
  | _ => none }
def fnExactRoundsOfRow : OpenClaim := { program := "ytnpfjpihcdlmhaa", sum := "403314afba9af688e5e9ddd57dc81b37ece6194a797b64327c476cd2fbd9a022", func := "loop.example/questiongames/laws.FnExactRoundsOf", spec := "fnExactRoundsOf", apart := false }
def FnExactRoundsOfSaid : Prop := fnExactRoundsOfRow.holds Try.pinned (OpenSpec.ofChange fnExactRoundsOfSpec)

/-- ITS FALSE NEIGHBOUR: 'it returns false'. Refute it at one input. -/
def fnExactRoundsOfWrong : ChangeSpec := { name := "fnExactRoundsOf", fn := fun _ => fun
  | [d1, d2, d3] => { results := [.lit (.bool false)], args := [d1, d2, d3] }
  | _ => none }
def FnExactRoundsOfWrongFalsely : Prop := fnExactRoundsOfRow.holds Try.pinned (OpenSpec.ofChange fnExactRoundsOfWrong)

/-- 'laws.FnExactRoomNew': WHATEVER THE INPUT: true; the input reads as it did. -/
def fnExactRoomNewSpec : ChangeSpec := { name := "fnExactRoomNew", fn := fun _ => fun
  | [d] => { results := [.lit (.bool true)], args := [d] }
  | _ => none }
def fnExactRoomNewRow : OpenClaim := { program := "ytnpfjpihcdlmhaa", sum := "403314afba9af688e5e9ddd57dc81b37ece6194a797b64327c476cd2fbd9a022", func := "loop.example/questiongames/laws.FnExactRoomNew", spec := "fnExactRoomNew", apart := false }
def FnExactRoomNewSaid : Prop := fnExactRoomNewRow.holds Try.pinned (OpenSpec.ofChange fnExactRoomNewSpec)

/-- ITS FALSE NEIGHBOUR: 'it returns false'. Refute it at one input. -/
def fnExactRoomNewWrong : ChangeSpec := { name := "fnExactRoomNew", fn := fun _ => fun
  | [d] => { results := [.lit (.bool false)], args := [d] }
  | _ => none }
def FnExactRoomNewWrongFalsely : Prop := fnExactRoomNewRow.holds Try.pinned (OpenSpec.ofChange fnExactRoomNewWrong)

/-- 'laws.FnExactSeenBy': WHATEVER THE INPUT: true; the input reads as it did. -/
def fnExactSeenBySpec : ChangeSpec := { name := "fnExactSeenBy", fn := fun _ => fun
  | [d1, d2] => { results := [.lit (.bool true)], args := [d1, d2] }
  | _ => none }
def fnExactSeenByRow : OpenClaim := { program := "ytnpfjpihcdlmhaa", sum := "403314afba9af688e5e9ddd57dc81b37ece6194a797b64327c476cd2fbd9a022", func := "loop.example/questiongames/laws.FnExactSeenBy", spec := "fnExactSeenBy", unfollowed := true, recurses := true, apart := false }
def FnExactSeenBySaid : Prop := fnExactSeenByRow.holds Try.pinned (OpenSpec.ofChange fnExactSeenBySpec)

/-- ITS FALSE NEIGHBOUR: 'it returns false'. Refute it at one input. -/
def fnExactSeenByWrong : ChangeSpec := { name := "fnExactSeenBy", fn := fun _ => fun
  | [d1, d2] => { results := [.lit (.bool false)], args := [d1, d2] }
  | _ => none }
def FnExactSeenByWrongFalsely : Prop := fnExactSeenByRow.holds Try.pinned (OpenSpec.ofChange fnExactSeenByWrong)

/-- 'laws.FnExactRoomOk': WHATEVER THE INPUT: true; the input reads as it did. -/
def fnExactRoomOkSpec : ChangeSpec := { name := "fnExactRoomOk", fn := fun _ => fun
  | [d] => { results := [.lit (.bool true)], args := [d] }
  | _ => none }
def fnExactRoomOkRow : OpenClaim := { program := "ytnpfjpihcdlmhaa", sum := "403314afba9af688e5e9ddd57dc81b37ece6194a797b64327c476cd2fbd9a022", func := "loop.example/questiongames/laws.FnExactRoomOk", spec := "fnExactRoomOk", unfollowed := true, recurses := true, apart := false }
def FnExactRoomOkSaid : Prop := fnExactRoomOkRow.holds Try.pinned (OpenSpec.ofChange fnExactRoomOkSpec)

/-- ITS FALSE NEIGHBOUR: 'it returns false'. Refute it at one input. -/
def fnExactRoomOkWrong : ChangeSpec := { name := "fnExactRoomOk", fn := fun _ => fun
  | [d] => { results := [.lit (.bool false)], args := [d] }
  | _ => none }
def FnExactRoomOkWrongFalsely : Prop := fnExactRoomOkRow.holds Try.pinned (OpenSpec.ofChange fnExactRoomOkWrong)

/-- 'laws.FnExactToldAfter': WHATEVER THE INPUT: true; the input reads as it did. -/
def fnExactToldAfterSpec : ChangeSpec := { name := "fnExactToldAfter", fn := fun _ => fun
  | [d1, d2] => { results := [.lit (.bool true)], args := [d1, d2] }
  | _ => none }
def fnExactToldAfterRow : OpenClaim := { program := "ytnpfjpihcdlmhaa", sum := "403314afba9af688e5e9ddd57dc81b37ece6194a797b64327c476cd2fbd9a022", func := "loop.example/questiongames/laws.FnExactToldAfter", spec := "fnExactToldAfter", unfollowed := true, recurses := true, apart := false }
def FnExactToldAfterSaid : Prop := fnExactToldAfterRow.holds Try.pinned (OpenSpec.ofChange fnExactToldAfterSpec)

/-- ITS FALSE NEIGHBOUR: 'it returns false'. Refute it at one input. -/
def fnExactToldAfterWrong : ChangeSpec := { name := "fnExactToldAfter", fn := fun _ => fun
  | [d1, d2] => { results := [.lit (.bool false)], args := [d1, d2] }
  | _ => none }
def FnExactToldAfterWrongFalsely : Prop := fnExactToldAfterRow.holds Try.pinned (OpenSpec.ofChange fnExactToldAfterWrong)

/-- 'laws.FnExactAfterVisits': WHATEVER THE INPUT: true; the input reads as it did. -/
def fnExactAfterVisitsSpec : ChangeSpec := { name := "fnExactAfterVisits", fn := fun _ => fun
  | [d1, d2] => { results := [.lit (.bool true)], args := [d1, d2] }
  | _ => none }
def fnExactAfterVisitsRow : OpenClaim := { program := "ytnpfjpihcdlmhaa", sum := "403314afba9af688e5e9ddd57dc81b37ece6194a797b64327c476cd2fbd9a022", func := "loop.example/questiongames/laws.FnExactAfterVisits", spec := "fnExactAfterVisits", unfollowed := true, recurses := true, apart := false }
def FnExactAfterVisitsSaid : Prop := fnExactAfterVisitsRow.holds Try.pinned (OpenSpec.ofChange fnExactAfterVisitsSpec)

/-- ITS FALSE NEIGHBOUR: 'it returns false'. Refute it at one input. -/
def fnExactAfterVisitsWrong : ChangeSpec := { name := "fnExactAfterVisits", fn := fun _ => fun
  | [d1, d2] => { results := [.lit (.bool false)], args := [d1, d2] }
  | _ => none }
def FnExactAfterVisitsWrongFalsely : Prop := fnExactAfterVisitsRow.holds Try.pinned (OpenSpec.ofChange fnExactAfterVisitsWrong)

/-- 'laws.FnExactAfterVisit': WHATEVER THE INPUT: true; the input reads as it did. -/
def fnExactAfterVisitSpec : ChangeSpec := { name := "fnExactAfterVisit", fn := fun _ => fun
  | [d1, d2] => { results := [.lit (.bool true)], args := [d1, d2] }
  | _ => none }
def fnExactAfterVisitRow : OpenClaim := { program := "ytnpfjpihcdlmhaa", sum := "403314afba9af688e5e9ddd57dc81b37ece6194a797b64327c476cd2fbd9a022", func := "loop.example/questiongames/laws.FnExactAfterVisit", spec := "fnExactAfterVisit", unfollowed := true, recurses := true, apart := false }
def FnExactAfterVisitSaid : Prop := fnExactAfterVisitRow.holds Try.pinned (OpenSpec.ofChange fnExactAfterVisitSpec)

/-- ITS FALSE NEIGHBOUR: 'it returns false'. Refute it at one input. -/
def fnExactAfterVisitWrong : ChangeSpec := { name := "fnExactAfterVisit", fn := fun _ => fun
  | [d1, d2] => { results := [.lit (.bool false)], args := [d1, d2] }
  | _ => none }
def FnExactAfterVisitWrongFalsely : Prop := fnExactAfterVisitRow.holds Try.pinned (OpenSpec.ofChange fnExactAfterVisitWrong)

/-- 'laws.FnVisitsOk': WHATEVER THE INPUT: true; the input reads as it did. -/
def fnVisitsOkSpec : ChangeSpec := { name := "fnVisitsOk", fn := fun _ => fun
  | [d] => { results := [.lit (.bool true)], args := [d] }
  | _ => none }
def fnVisitsOkRow : OpenClaim := { program := "ytnpfjpihcdlmhaa", sum := "403314afba9af688e5e9ddd57dc81b37ece6194a797b64327c476cd2fbd9a022", func := "loop.example/questiongames/laws.FnVisitsOk", spec := "fnVisitsOk", unfollowed := true, recurses := true, apart := false }
def FnVisitsOkSaid : Prop := fnVisitsOkRow.holds Try.pinned (OpenSpec.ofChange fnVisitsOkSpec)

/-- ITS FALSE NEIGHBOUR: 'it returns false'. Refute it at one input. -/
def fnVisitsOkWrong : ChangeSpec := { name := "fnVisitsOk", fn := fun _ => fun
  | [d] => { results := [.lit (.bool false)], args := [d] }
  | _ => none }
def FnVisitsOkWrongFalsely : Prop := fnVisitsOkRow.holds Try.pinned (OpenSpec.ofChange fnVisitsOkWrong)

/-- 'laws.FnRoomNew': WHATEVER THE INPUT: true; the input reads as it did. -/
def fnRoomNewSpec : ChangeSpec := { name := "fnRoomNew", fn := fun _ => fun
  | [d] => { results := [.lit (.bool true)], args := [d] }
  | _ => none }
def fnRoomNewRow : OpenClaim := { program := "ytnpfjpihcdlmhaa", sum := "403314afba9af688e5e9ddd57dc81b37ece6194a797b64327c476cd2fbd9a022", func := "loop.example/questiongames/laws.FnRoomNew", spec := "fnRoomNew", unfollowed := true, recurses := true, apart := false }
def FnRoomNewSaid : Prop := fnRoomNewRow.holds Try.pinned (OpenSpec.ofChange fnRoomNewSpec)

/-- ITS FALSE NEIGHBOUR: 'it returns false'. Refute it at one input. -/
def fnRoomNewWrong : ChangeSpec := { name := "fnRoomNew", fn := fun _ => fun
  | [d] => { results := [.lit (.bool false)], args := [d] }
  | _ => none }
def FnRoomNewWrongFalsely : Prop := fnRoomNewRow.holds Try.pinned (OpenSpec.ofChange fnRoomNewWrong)

/-- 'laws.FnSeenBy': WHATEVER THE INPUT: true; the input reads as it did. -/
def fnSeenBySpec : ChangeSpec := { name := "fnSeenBy", fn := fun _ => fun
  | [d] => { results := [.lit (.bool true)], args := [d] }
  | _ => none }
def fnSeenByRow : OpenClaim := { program := "ytnpfjpihcdlmhaa", sum := "403314afba9af688e5e9ddd57dc81b37ece6194a797b64327c476cd2fbd9a022", func := "loop.example/questiongames/laws.FnSeenBy", spec := "fnSeenBy", unfollowed := true, recurses := true, apart := false }
def FnSeenBySaid : Prop := fnSeenByRow.holds Try.pinned (OpenSpec.ofChange fnSeenBySpec)

/-- ITS FALSE NEIGHBOUR: 'it returns false'. Refute it at one input. -/
def fnSeenByWrong : ChangeSpec := { name := "fnSeenBy", fn := fun _ => fun
  | [d] => { results := [.lit (.bool false)], args := [d] }
  | _ => none }
def FnSeenByWrongFalsely : Prop := fnSeenByRow.holds Try.pinned (OpenSpec.ofChange fnSeenByWrong)

/-- 'laws.FnRoundsOf': WHATEVER THE INPUT: true; the input reads as it did. -/
def fnRoundsOfSpec : ChangeSpec := { name := "fnRoundsOf", fn := fun _ => fun
  | [d] => { results := [.lit (.bool true)], args := [d] }
  | _ => none }
def fnRoundsOfRow : OpenClaim := { program := "ytnpfjpihcdlmhaa", sum := "403314afba9af688e5e9ddd57dc81b37ece6194a797b64327c476cd2fbd9a022", func := "loop.example/questiongames/laws.FnRoundsOf", spec := "fnRoundsOf", unfollowed := true, recurses := true, apart := false }
def FnRoundsOfSaid : Prop := fnRoundsOfRow.holds Try.pinned (OpenSpec.ofChange fnRoundsOfSpec)

/-- ITS FALSE NEIGHBOUR: 'it returns false'. Refute it at one input. -/
def fnRoundsOfWrong : ChangeSpec := { name := "fnRoundsOf", fn := fun _ => fun
  | [d] => { results := [.lit (.bool false)], args := [d] }
  | _ => none }
def FnRoundsOfWrongFalsely : Prop := fnRoundsOfRow.holds Try.pinned (OpenSpec.ofChange fnRoundsOfWrong)

/-- 'laws.FnRoomOk': WHATEVER THE INPUT: true; the input reads as it did. -/
def fnRoomOkSpec : ChangeSpec := { name := "fnRoomOk", fn := fun _ => fun
  | [d] => { results := [.lit (.bool true)], args := [d] }
  | _ => none }
def fnRoomOkRow : OpenClaim := { program := "ytnpfjpihcdlmhaa", sum := "403314afba9af688e5e9ddd57dc81b37ece6194a797b64327c476cd2fbd9a022", func := "loop.example/questiongames/laws.FnRoomOk", spec := "fnRoomOk", unfollowed := true, recurses := true, apart := false }
def FnRoomOkSaid : Prop := fnRoomOkRow.holds Try.pinned (OpenSpec.ofChange fnRoomOkSpec)

/-- ITS FALSE NEIGHBOUR: 'it returns false'. Refute it at one input. -/
def fnRoomOkWrong : ChangeSpec := { name := "fnRoomOk", fn := fun _ => fun
  | [d] => { results := [.lit (.bool false)], args := [d] }
  | _ => none }
def FnRoomOkWrongFalsely : Prop := fnRoomOkRow.holds Try.pinned (OpenSpec.ofChange fnRoomOkWrong)

/-- 'laws.FnToldAfter': WHATEVER THE INPUT: true; the input reads as it did. -/
def fnToldAfterSpec : ChangeSpec := { name := "fnToldAfter", fn := fun _ => fun
  | [d] => { results := [.lit (.bool true)], args := [d] }
  | _ => none }
def fnToldAfterRow : OpenClaim := { program := "ytnpfjpihcdlmhaa", sum := "403314afba9af688e5e9ddd57dc81b37ece6194a797b64327c476cd2fbd9a022", func := "loop.example/questiongames/laws.FnToldAfter", spec := "fnToldAfter", unfollowed := true, recurses := true, apart := false }
def FnToldAfterSaid : Prop := fnToldAfterRow.holds Try.pinned (OpenSpec.ofChange fnToldAfterSpec)

/-- ITS FALSE NEIGHBOUR: 'it returns false'. Refute it at one input. -/
def fnToldAfterWrong : ChangeSpec := { name := "fnToldAfter", fn := fun _ => fun
  | [d] => { results := [.lit (.bool false)], args := [d] }
  | _ => none }
def FnToldAfterWrongFalsely : Prop := fnToldAfterRow.holds Try.pinned (OpenSpec.ofChange fnToldAfterWrong)

/-- 'laws.FnAfterVisits': WHATEVER THE INPUT: true; the input reads as it did. -/
def fnAfterVisitsSpec : ChangeSpec := { name := "fnAfterVisits", fn := fun _ => fun
  | [d] => { results := [.lit (.bool true)], args := [d] }
  | _ => none }
def fnAfterVisitsRow : OpenClaim := { program := "ytnpfjpihcdlmhaa", sum := "403314afba9af688e5e9ddd57dc81b37ece6194a797b64327c476cd2fbd9a022", func := "loop.example/questiongames/laws.FnAfterVisits", spec := "fnAfterVisits", unfollowed := true, recurses := true, apart := false }
def FnAfterVisitsSaid : Prop := fnAfterVisitsRow.holds Try.pinned (OpenSpec.ofChange fnAfterVisitsSpec)

/-- ITS FALSE NEIGHBOUR: 'it returns false'. Refute it at one input. -/
def fnAfterVisitsWrong : ChangeSpec := { name := "fnAfterVisits", fn := fun _ => fun
  | [d] => { results := [.lit (.bool false)], args := [d] }
  | _ => none }
def FnAfterVisitsWrongFalsely : Prop := fnAfterVisitsRow.holds Try.pinned (OpenSpec.ofChange fnAfterVisitsWrong)

/-- 'laws.FnAfterVisit': WHATEVER THE INPUT: true; the input reads as it did. -/
def fnAfterVisitSpec : ChangeSpec := { name := "fnAfterVisit", fn := fun _ => fun
  | [d] => { results := [.lit (.bool true)], args := [d] }
  | _ => none }
def fnAfterVisitRow : OpenClaim := { program := "ytnpfjpihcdlmhaa", sum := "403314afba9af688e5e9ddd57dc81b37ece6194a797b64327c476cd2fbd9a022", func := "loop.example/questiongames/laws.FnAfterVisit", spec := "fnAfterVisit", unfollowed := true, recurses := true, apart := false }
def FnAfterVisitSaid : Prop := fnAfterVisitRow.holds Try.pinned (OpenSpec.ofChange fnAfterVisitSpec)

/-- ITS FALSE NEIGHBOUR: 'it returns false'. Refute it at one input. -/
def fnAfterVisitWrong : ChangeSpec := { name := "fnAfterVisit", fn := fun _ => fun
  | [d] => { results := [.lit (.bool false)], args := [d] }
  | _ => none }
def FnAfterVisitWrongFalsely : Prop := fnAfterVisitRow.holds Try.pinned (OpenSpec.ofChange fnAfterVisitWrong)

/- THE SECOND FORM. 'bulk': how many values and letters a reading holds, each counted each time it is reached (what is shared counts as often as it is met; a slice's spare places count too). A statement '..UptoSaid' is the law's where the arguments, and the package variables that the reading takes, are together of bulk at most 1048576: NARROWER than '..Said'. Prove '..Said' where nothing that the law and all that it calls make is longer than what came in: it says more and counts as full. Else prove '..UptoSaid'. A law counts once. -/
mutual
def uptoBulk {H : Type} : DataW H → Nat
  | .lit (.string bytes) => bytes.length + 1
  | .lit _ => 1
  | .nil => 1
  | .ptr d => uptoBulk d + 1
  | .slice elems spare => uptoBulkAll elems + uptoBulkAll spare + 1
  | .agg parts => uptoBulkAll parts + 1
  | .iface _ d => uptoBulk d + 1
  | .map entries => uptoBulkEntries entries + 1
  | .held _ => 1
def uptoBulkAll {H : Type} : List (DataW H) → Nat
  | [] => 0
  | d :: r => uptoBulk d + uptoBulkAll r
def uptoBulkEntries {H : Type} : List (Lit × DataW H) → Nat
  | [] => 0
  | x :: r => uptoBulkEntry x + uptoBulkEntries r
def uptoBulkEntry {H : Type} : Lit × DataW H → Nat
  | (.string bytes, d) => bytes.length + uptoBulk d + 1
  | (_, d) => uptoBulk d + 1
 end
def uptoSmall : (H : Type) → List (DataW H) → Bool := fun _ ds => decide (uptoBulkAll ds ≤ 1048576)
def OpenSpec.upto (s : _root_.Go.ChangeSpec) : _root_.Go.OpenSpec := { _root_.Go.OpenSpec.ofChange s with cond := some uptoSmall }

/-- 'laws.FnExactVisitsOk', WHERE WHAT IT READS IS OF BULK AT MOST 1048576: true; the input reads as it did. -/
def fnExactVisitsOkUptoRow : OpenClaim := { program := "ytnpfjpihcdlmhaa", sum := "403314afba9af688e5e9ddd57dc81b37ece6194a797b64327c476cd2fbd9a022", func := "loop.example/questiongames/laws.FnExactVisitsOk", spec := "fnExactVisitsOk", unfollowed := true, recurses := true, apart := false, narrowed := true }
def FnExactVisitsOkUptoSaid : Prop := fnExactVisitsOkUptoRow.holds Try.pinned (OpenSpec.upto fnExactVisitsOkSpec)

/-- 'laws.FnExactRoundsOf', WHERE WHAT IT READS IS OF BULK AT MOST 1048576: true; the input reads as it did. -/
def fnExactRoundsOfUptoRow : OpenClaim := { program := "ytnpfjpihcdlmhaa", sum := "403314afba9af688e5e9ddd57dc81b37ece6194a797b64327c476cd2fbd9a022", func := "loop.example/questiongames/laws.FnExactRoundsOf", spec := "fnExactRoundsOf", apart := false, narrowed := true }
def FnExactRoundsOfUptoSaid : Prop := fnExactRoundsOfUptoRow.holds Try.pinned (OpenSpec.upto fnExactRoundsOfSpec)

/-- 'laws.FnExactRoomNew', WHERE WHAT IT READS IS OF BULK AT MOST 1048576: true; the input reads as it did. -/
def fnExactRoomNewUptoRow : OpenClaim := { program := "ytnpfjpihcdlmhaa", sum := "403314afba9af688e5e9ddd57dc81b37ece6194a797b64327c476cd2fbd9a022", func := "loop.example/questiongames/laws.FnExactRoomNew", spec := "fnExactRoomNew", apart := false, narrowed := true }
def FnExactRoomNewUptoSaid : Prop := fnExactRoomNewUptoRow.holds Try.pinned (OpenSpec.upto fnExactRoomNewSpec)

/-- 'laws.FnExactSeenBy', WHERE WHAT IT READS IS OF BULK AT MOST 1048576: true; the input reads as it did. -/
def fnExactSeenByUptoRow : OpenClaim := { program := "ytnpfjpihcdlmhaa", sum := "403314afba9af688e5e9ddd57dc81b37ece6194a797b64327c476cd2fbd9a022", func := "loop.example/questiongames/laws.FnExactSeenBy", spec := "fnExactSeenBy", unfollowed := true, recurses := true, apart := false, narrowed := true }
def FnExactSeenByUptoSaid : Prop := fnExactSeenByUptoRow.holds Try.pinned (OpenSpec.upto fnExactSeenBySpec)

/-- 'laws.FnExactRoomOk', WHERE WHAT IT READS IS OF BULK AT MOST 1048576: true; the input reads as it did. -/
def fnExactRoomOkUptoRow : OpenClaim := { program := "ytnpfjpihcdlmhaa", sum := "403314afba9af688e5e9ddd57dc81b37ece6194a797b64327c476cd2fbd9a022", func := "loop.example/questiongames/laws.FnExactRoomOk", spec := "fnExactRoomOk", unfollowed := true, recurses := true, apart := false, narrowed := true }
def FnExactRoomOkUptoSaid : Prop := fnExactRoomOkUptoRow.holds Try.pinned (OpenSpec.upto fnExactRoomOkSpec)

/-- 'laws.FnExactToldAfter', WHERE WHAT IT READS IS OF BULK AT MOST 1048576: true; the input reads as it did. -/
def fnExactToldAfterUptoRow : OpenClaim := { program := "ytnpfjpihcdlmhaa", sum := "403314afba9af688e5e9ddd57dc81b37ece6194a797b64327c476cd2fbd9a022", func := "loop.example/questiongames/laws.FnExactToldAfter", spec := "fnExactToldAfter", unfollowed := true, recurses := true, apart := false, narrowed := true }
def FnExactToldAfterUptoSaid : Prop := fnExactToldAfterUptoRow.holds Try.pinned (OpenSpec.upto fnExactToldAfterSpec)

/-- 'laws.FnExactAfterVisits', WHERE WHAT IT READS IS OF BULK AT MOST 1048576: true; the input reads as it did. -/
def fnExactAfterVisitsUptoRow : OpenClaim := { program := "ytnpfjpihcdlmhaa", sum := "403314afba9af688e5e9ddd57dc81b37ece6194a797b64327c476cd2fbd9a022", func := "loop.example/questiongames/laws.FnExactAfterVisits", spec := "fnExactAfterVisits", unfollowed := true, recurses := true, apart := false, narrowed := true }
def FnExactAfterVisitsUptoSaid : Prop := fnExactAfterVisitsUptoRow.holds Try.pinned (OpenSpec.upto fnExactAfterVisitsSpec)

/-- 'laws.FnExactAfterVisit', WHERE WHAT IT READS IS OF BULK AT MOST 1048576: true; the input reads as it did. -/
def fnExactAfterVisitUptoRow : OpenClaim := { program := "ytnpfjpihcdlmhaa", sum := "403314afba9af688e5e9ddd57dc81b37ece6194a797b64327c476cd2fbd9a022", func := "loop.example/questiongames/laws.FnExactAfterVisit", spec := "fnExactAfterVisit", unfollowed := true, recurses := true, apart := false, narrowed := true }
def FnExactAfterVisitUptoSaid : Prop := fnExactAfterVisitUptoRow.holds Try.pinned (OpenSpec.upto fnExactAfterVisitSpec)

/-- 'laws.FnVisitsOk', WHERE WHAT IT READS IS OF BULK AT MOST 1048576: true; the input reads as it did. -/
def fnVisitsOkUptoRow : OpenClaim := { program := "ytnpfjpihcdlmhaa", sum := "403314afba9af688e5e9ddd57dc81b37ece6194a797b64327c476cd2fbd9a022", func := "loop.example/questiongames/laws.FnVisitsOk", spec := "fnVisitsOk", unfollowed := true, recurses := true, apart := false, narrowed := true }
def FnVisitsOkUptoSaid : Prop := fnVisitsOkUptoRow.holds Try.pinned (OpenSpec.upto fnVisitsOkSpec)

/-- 'laws.FnRoomNew', WHERE WHAT IT READS IS OF BULK AT MOST 1048576: true; the input reads as it did. -/
def fnRoomNewUptoRow : OpenClaim := { program := "ytnpfjpihcdlmhaa", sum := "403314afba9af688e5e9ddd57dc81b37ece6194a797b64327c476cd2fbd9a022", func := "loop.example/questiongames/laws.FnRoomNew", spec := "fnRoomNew", unfollowed := true, recurses := true, apart := false, narrowed := true }
def FnRoomNewUptoSaid : Prop := fnRoomNewUptoRow.holds Try.pinned (OpenSpec.upto fnRoomNewSpec)

/-- 'laws.FnSeenBy', WHERE WHAT IT READS IS OF BULK AT MOST 1048576: true; the input reads as it did. -/
def fnSeenByUptoRow : OpenClaim := { program := "ytnpfjpihcdlmhaa", sum := "403314afba9af688e5e9ddd57dc81b37ece6194a797b64327c476cd2fbd9a022", func := "loop.example/questiongames/laws.FnSeenBy", spec := "fnSeenBy", unfollowed := true, recurses := true, apart := false, narrowed := true }
def FnSeenByUptoSaid : Prop := fnSeenByUptoRow.holds Try.pinned (OpenSpec.upto fnSeenBySpec)

/-- 'laws.FnRoundsOf', WHERE WHAT IT READS IS OF BULK AT MOST 1048576: true; the input reads as it did. -/
def fnRoundsOfUptoRow : OpenClaim := { program := "ytnpfjpihcdlmhaa", sum := "403314afba9af688e5e9ddd57dc81b37ece6194a797b64327c476cd2fbd9a022", func := "loop.example/questiongames/laws.FnRoundsOf", spec := "fnRoundsOf", unfollowed := true, recurses := true, apart := false, narrowed := true }
def FnRoundsOfUptoSaid : Prop := fnRoundsOfUptoRow.holds Try.pinned (OpenSpec.upto fnRoundsOfSpec)

/-- 'laws.FnRoomOk', WHERE WHAT IT READS IS OF BULK AT MOST 1048576: true; the input reads as it did. -/
def fnRoomOkUptoRow : OpenClaim := { program := "ytnpfjpihcdlmhaa", sum := "403314afba9af688e5e9ddd57dc81b37ece6194a797b64327c476cd2fbd9a022", func := "loop.example/questiongames/laws.FnRoomOk", spec := "fnRoomOk", unfollowed := true, recurses := true, apart := false, narrowed := true }
def FnRoomOkUptoSaid : Prop := fnRoomOkUptoRow.holds Try.pinned (OpenSpec.upto fnRoomOkSpec)

/-- 'laws.FnToldAfter', WHERE WHAT IT READS IS OF BULK AT MOST 1048576: true; the input reads as it did. -/
def fnToldAfterUptoRow : OpenClaim := { program := "ytnpfjpihcdlmhaa", sum := "403314afba9af688e5e9ddd57dc81b37ece6194a797b64327c476cd2fbd9a022", func := "loop.example/questiongames/laws.FnToldAfter", spec := "fnToldAfter", unfollowed := true, recurses := true, apart := false, narrowed := true }
def FnToldAfterUptoSaid : Prop := fnToldAfterUptoRow.holds Try.pinned (OpenSpec.upto fnToldAfterSpec)

/-- 'laws.FnAfterVisits', WHERE WHAT IT READS IS OF BULK AT MOST 1048576: true; the input reads as it did. -/
def fnAfterVisitsUptoRow : OpenClaim := { program := "ytnpfjpihcdlmhaa", sum := "403314afba9af688e5e9ddd57dc81b37ece6194a797b64327c476cd2fbd9a022", func := "loop.example/questiongames/laws.FnAfterVisits", spec := "fnAfterVisits", unfollowed := true, recurses := true, apart := false, narrowed := true }
def FnAfterVisitsUptoSaid : Prop := fnAfterVisitsUptoRow.holds Try.pinned (OpenSpec.upto fnAfterVisitsSpec)

/-- 'laws.FnAfterVisit', WHERE WHAT IT READS IS OF BULK AT MOST 1048576: true; the input reads as it did. -/
def fnAfterVisitUptoRow : OpenClaim := { program := "ytnpfjpihcdlmhaa", sum := "403314afba9af688e5e9ddd57dc81b37ece6194a797b64327c476cd2fbd9a022", func := "loop.example/questiongames/laws.FnAfterVisit", spec := "fnAfterVisit", unfollowed := true, recurses := true, apart := false, narrowed := true }
def FnAfterVisitUptoSaid : Prop := fnAfterVisitUptoRow.holds Try.pinned (OpenSpec.upto fnAfterVisitSpec)

end Rows
end Go.Proofs.Ytnpfjpihcdlmhaa
