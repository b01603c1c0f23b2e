/-
  No cell of these rows narrows 'for every input' (looked for: loops, veiled, ifaces, maps, wideKeys, modest, calm, conditions, laid).
  DERIVED. THE GIVEN ROWS OF THIS SEAT. 8 by the template 'for every input the law returns true; each argument reads behind the call as it read before'; 0 by the template 'total and deterministic' (their statements: YtabejgcpihacpaaTotals.lean).
  GIVEN WITH THE SEED: the statements are not yours to turn. If you find one false, say at which input.
  Laid BY PROGRAM, IN A SANDBOX (cutbox-rows.mjs): the forced cells as the released guide's own fill.sh prints them over the translation b6625f3782d59b84… (all of the seat's roots in one cut). By AI agents, Wed Nov 11 2026. No macro, syntax, notation, axiom, sorry.
-/
import Derived.Test.YtabejgcpihacpaaChecked
import GoSem.Claim
import GoSem.ClaimJoined
import GoSem.ClaimMapViews
import Derived.JoinedTies
import Derived.KernelRfl
namespace Go.Proofs.Ytabejgcpihacpaa
/- THE CELL 'sum', in the pinned program and in every row, IS THE sha256 OF THE DUMP (.gsa) THAT YtabejgcpihacpaaProg.lean LOADS. Nothing in Lean hashes anything: it is a label: what it is worth is what the hold of that sum in a sandbox is worth. -/
noncomputable def Try.pinned : Pinned := { name := "ytabejgcpihacpaa", sum := "b6625f3782d59b84968e128ef94cf48417f120f6f3ee4ddadeb0c0c11154c53d", checked := Try.checked }
namespace Rows
def none {H : Type} : Left H := { results := [], args := [] }

/-- 'finesselaw11.TrickPlays': WHATEVER THE INPUT: true; the input reads as it did. -/
def trickPlaysSpec : ChangeSpec := { name := "trickPlays", fn := fun _ => fun
  | [d1, d2, d3] => { results := [.lit (.bool true)], args := [d1, d2, d3] }
  | _ => none }
def trickPlaysRow : OpenClaim := { program := "ytabejgcpihacpaa", sum := "b6625f3782d59b84968e128ef94cf48417f120f6f3ee4ddadeb0c0c11154c53d", func := "finesse/finesselaw11.TrickPlays", spec := "trickPlays", unfollowed := true, recurses := true, apart := false }
def TrickPlaysSaid : Prop := trickPlaysRow.holds Try.pinned (OpenSpec.ofChange trickPlaysSpec)

/-- ITS FALSE NEIGHBOUR: 'it returns false'. Refute it at one input. -/
def trickPlaysWrong : ChangeSpec := { name := "trickPlays", fn := fun _ => fun
  | [d1, d2, d3] => { results := [.lit (.bool false)], args := [d1, d2, d3] }
  | _ => none }
def TrickPlaysWrongFalsely : Prop := trickPlaysRow.holds Try.pinned (OpenSpec.ofChange trickPlaysWrong)

/-- 'finesselaw11.TrickSuits': WHATEVER THE INPUT: true; the input reads as it did. -/
def trickSuitsSpec : ChangeSpec := { name := "trickSuits", fn := fun _ => fun
  | [d1, d2, d3, d4] => { results := [.lit (.bool true)], args := [d1, d2, d3, d4] }
  | _ => none }
def trickSuitsRow : OpenClaim := { program := "ytabejgcpihacpaa", sum := "b6625f3782d59b84968e128ef94cf48417f120f6f3ee4ddadeb0c0c11154c53d", func := "finesse/finesselaw11.TrickSuits", spec := "trickSuits", unfollowed := true, recurses := true, apart := false }
def TrickSuitsSaid : Prop := trickSuitsRow.holds Try.pinned (OpenSpec.ofChange trickSuitsSpec)

/-- ITS FALSE NEIGHBOUR: 'it returns false'. Refute it at one input. -/
def trickSuitsWrong : ChangeSpec := { name := "trickSuits", fn := fun _ => fun
  | [d1, d2, d3, d4] => { results := [.lit (.bool false)], args := [d1, d2, d3, d4] }
  | _ => none }
def TrickSuitsWrongFalsely : Prop := trickSuitsRow.holds Try.pinned (OpenSpec.ofChange trickSuitsWrong)

/-- 'finesselaw11.TrickTells': WHATEVER THE INPUT: true; the input reads as it did. -/
def trickTellsSpec : ChangeSpec := { name := "trickTells", fn := fun _ => fun
  | [d1, d2, d3, d4] => { results := [.lit (.bool true)], args := [d1, d2, d3, d4] }
  | _ => none }
def trickTellsRow : OpenClaim := { program := "ytabejgcpihacpaa", sum := "b6625f3782d59b84968e128ef94cf48417f120f6f3ee4ddadeb0c0c11154c53d", func := "finesse/finesselaw11.TrickTells", spec := "trickTells", unfollowed := true, recurses := true, apart := false }
def TrickTellsSaid : Prop := trickTellsRow.holds Try.pinned (OpenSpec.ofChange trickTellsSpec)

/-- ITS FALSE NEIGHBOUR: 'it returns false'. Refute it at one input. -/
def trickTellsWrong : ChangeSpec := { name := "trickTells", fn := fun _ => fun
  | [d1, d2, d3, d4] => { results := [.lit (.bool false)], args := [d1, d2, d3, d4] }
  | _ => none }
def TrickTellsWrongFalsely : Prop := trickTellsRow.holds Try.pinned (OpenSpec.ofChange trickTellsWrong)

/-- 'finesselaw11.TrickSmall': WHATEVER THE INPUT: true; the input reads as it did. -/
def trickSmallSpec : ChangeSpec := { name := "trickSmall", fn := fun _ => fun
  | [] => { results := [.lit (.bool true)], args := [] }
  | _ => none }
def trickSmallRow : OpenClaim := { program := "ytabejgcpihacpaa", sum := "b6625f3782d59b84968e128ef94cf48417f120f6f3ee4ddadeb0c0c11154c53d", func := "finesse/finesselaw11.TrickSmall", spec := "trickSmall", unfollowed := true, recurses := true, apart := false }
def TrickSmallSaid : Prop := trickSmallRow.holds Try.pinned (OpenSpec.ofChange trickSmallSpec)

/-- ITS FALSE NEIGHBOUR: 'it returns false'. Refute it at one input. -/
def trickSmallWrong : ChangeSpec := { name := "trickSmall", fn := fun _ => fun
  | [] => { results := [.lit (.bool false)], args := [] }
  | _ => none }
def TrickSmallWrongFalsely : Prop := trickSmallRow.holds Try.pinned (OpenSpec.ofChange trickSmallWrong)

/-- 'finesselaw11.TrickWinners': WHATEVER THE INPUT: true; the input reads as it did. -/
def trickWinnersSpec : ChangeSpec := { name := "trickWinners", fn := fun _ => fun
  | [d1, d2, d3] => { results := [.lit (.bool true)], args := [d1, d2, d3] }
  | _ => none }
def trickWinnersRow : OpenClaim := { program := "ytabejgcpihacpaa", sum := "b6625f3782d59b84968e128ef94cf48417f120f6f3ee4ddadeb0c0c11154c53d", func := "finesse/finesselaw11.TrickWinners", spec := "trickWinners", unfollowed := true, recurses := true, apart := false }
def TrickWinnersSaid : Prop := trickWinnersRow.holds Try.pinned (OpenSpec.ofChange trickWinnersSpec)

/-- ITS FALSE NEIGHBOUR: 'it returns false'. Refute it at one input. -/
def trickWinnersWrong : ChangeSpec := { name := "trickWinners", fn := fun _ => fun
  | [d1, d2, d3] => { results := [.lit (.bool false)], args := [d1, d2, d3] }
  | _ => none }
def TrickWinnersWrongFalsely : Prop := trickWinnersRow.holds Try.pinned (OpenSpec.ofChange trickWinnersWrong)

/-- 'finesselaw11.TrickWinner': WHATEVER THE INPUT: true; the input reads as it did. -/
def trickWinnerSpec : ChangeSpec := { name := "trickWinner", fn := fun _ => fun
  | [d1, d2, d3] => { results := [.lit (.bool true)], args := [d1, d2, d3] }
  | _ => none }
def trickWinnerRow : OpenClaim := { program := "ytabejgcpihacpaa", sum := "b6625f3782d59b84968e128ef94cf48417f120f6f3ee4ddadeb0c0c11154c53d", func := "finesse/finesselaw11.TrickWinner", spec := "trickWinner", unfollowed := true, recurses := true, apart := false }
def TrickWinnerSaid : Prop := trickWinnerRow.holds Try.pinned (OpenSpec.ofChange trickWinnerSpec)

/-- ITS FALSE NEIGHBOUR: 'it returns false'. Refute it at one input. -/
def trickWinnerWrong : ChangeSpec := { name := "trickWinner", fn := fun _ => fun
  | [d1, d2, d3] => { results := [.lit (.bool false)], args := [d1, d2, d3] }
  | _ => none }
def TrickWinnerWrongFalsely : Prop := trickWinnerRow.holds Try.pinned (OpenSpec.ofChange trickWinnerWrong)

/-- 'finesselaw11.TrickWrong': WHATEVER THE INPUT: true; the input reads as it did. -/
def trickWrongSpec : ChangeSpec := { name := "trickWrong", fn := fun _ => fun
  | [d1, d2, d3, d4] => { results := [.lit (.bool true)], args := [d1, d2, d3, d4] }
  | _ => none }
def trickWrongRow : OpenClaim := { program := "ytabejgcpihacpaa", sum := "b6625f3782d59b84968e128ef94cf48417f120f6f3ee4ddadeb0c0c11154c53d", func := "finesse/finesselaw11.TrickWrong", spec := "trickWrong", unfollowed := true, recurses := true, apart := false }
def TrickWrongSaid : Prop := trickWrongRow.holds Try.pinned (OpenSpec.ofChange trickWrongSpec)

/-- ITS FALSE NEIGHBOUR: 'it returns false'. Refute it at one input. -/
def trickWrongWrong : ChangeSpec := { name := "trickWrong", fn := fun _ => fun
  | [d1, d2, d3, d4] => { results := [.lit (.bool false)], args := [d1, d2, d3, d4] }
  | _ => none }
def TrickWrongWrongFalsely : Prop := trickWrongRow.holds Try.pinned (OpenSpec.ofChange trickWrongWrong)

/-- 'finesselaw11.TrickFollow': WHATEVER THE INPUT: true; the input reads as it did. -/
def trickFollowSpec : ChangeSpec := { name := "trickFollow", fn := fun _ => fun
  | [d1, d2] => { results := [.lit (.bool true)], args := [d1, d2] }
  | _ => none }
def trickFollowRow : OpenClaim := { program := "ytabejgcpihacpaa", sum := "b6625f3782d59b84968e128ef94cf48417f120f6f3ee4ddadeb0c0c11154c53d", func := "finesse/finesselaw11.TrickFollow", spec := "trickFollow", unfollowed := true, recurses := true, apart := false }
def TrickFollowSaid : Prop := trickFollowRow.holds Try.pinned (OpenSpec.ofChange trickFollowSpec)

/-- ITS FALSE NEIGHBOUR: 'it returns false'. Refute it at one input. -/
def trickFollowWrong : ChangeSpec := { name := "trickFollow", fn := fun _ => fun
  | [d1, d2] => { results := [.lit (.bool false)], args := [d1, d2] }
  | _ => none }
def TrickFollowWrongFalsely : Prop := trickFollowRow.holds Try.pinned (OpenSpec.ofChange trickFollowWrong)

/- THE SECOND FORM. 'bulk': how many values and letters a reading holds, each counted each time it is reached (what is shared counts as often as it is met; a slice's spare places count too). A statement '..UptoSaid' is the law's where the arguments, and the package variables that the reading takes, are together of bulk at most 1048576: NARROWER than '..Said'. Prove '..Said' where nothing that the law and all that it calls make is longer than what came in: it says more and counts as full. Else prove '..UptoSaid'. A law counts once. -/
mutual
def uptoBulk {H : Type} : DataW H → Nat
  | .lit (.string bytes) => bytes.length + 1
  | .lit _ => 1
  | .nil => 1
  | .ptr d => uptoBulk d + 1
  | .slice elems spare => uptoBulkAll elems + uptoBulkAll spare + 1
  | .agg parts => uptoBulkAll parts + 1
  | .iface _ d => uptoBulk d + 1
  | .map entries => uptoBulkEntries entries + 1
  | .held _ => 1
def uptoBulkAll {H : Type} : List (DataW H) → Nat
  | [] => 0
  | d :: r => uptoBulk d + uptoBulkAll r
def uptoBulkEntries {H : Type} : List (Lit × DataW H) → Nat
  | [] => 0
  | x :: r => uptoBulkEntry x + uptoBulkEntries r
def uptoBulkEntry {H : Type} : Lit × DataW H → Nat
  | (.string bytes, d) => bytes.length + uptoBulk d + 1
  | (_, d) => uptoBulk d + 1
 end
def uptoSmall : (H : Type) → List (DataW H) → Bool := fun _ ds => decide (uptoBulkAll ds ≤ 1048576)
def OpenSpec.upto (s : _root_.Go.ChangeSpec) : _root_.Go.OpenSpec := { _root_.Go.OpenSpec.ofChange s with cond := some uptoSmall }

/-- 'finesselaw11.TrickPlays', WHERE WHAT IT READS IS OF BULK AT MOST 1048576: true; the input reads as it did. -/
def trickPlaysUptoRow : OpenClaim := { program := "ytabejgcpihacpaa", sum := "b6625f3782d59b84968e128ef94cf48417f120f6f3ee4ddadeb0c0c11154c53d", func := "finesse/finesselaw11.TrickPlays", spec := "trickPlays", unfollowed := true, recurses := true, apart := false, narrowed := true }
def TrickPlaysUptoSaid : Prop := trickPlaysUptoRow.holds Try.pinned (OpenSpec.upto trickPlaysSpec)

/-- 'finesselaw11.TrickSuits', WHERE WHAT IT READS IS OF BULK AT MOST 1048576: true; the input reads as it did. -/
def trickSuitsUptoRow : OpenClaim := { program := "ytabejgcpihacpaa", sum := "b6625f3782d59b84968e128ef94cf48417f120f6f3ee4ddadeb0c0c11154c53d", func := "finesse/finesselaw11.TrickSuits", spec := "trickSuits", unfollowed := true, recurses := true, apart := false, narrowed := true }
def TrickSuitsUptoSaid : Prop := trickSuitsUptoRow.holds Try.pinned (OpenSpec.upto trickSuitsSpec)

/-- 'finesselaw11.TrickTells', WHERE WHAT IT READS IS OF BULK AT MOST 1048576: true; the input reads as it did. -/
def trickTellsUptoRow : OpenClaim := { program := "ytabejgcpihacpaa", sum := "b6625f3782d59b84968e128ef94cf48417f120f6f3ee4ddadeb0c0c11154c53d", func := "finesse/finesselaw11.TrickTells", spec := "trickTells", unfollowed := true, recurses := true, apart := false, narrowed := true }
def TrickTellsUptoSaid : Prop := trickTellsUptoRow.holds Try.pinned (OpenSpec.upto trickTellsSpec)

/-- 'finesselaw11.TrickSmall', WHERE WHAT IT READS IS OF BULK AT MOST 1048576: true; the input reads as it did. -/
def trickSmallUptoRow : OpenClaim := { program := "ytabejgcpihacpaa", sum := "b6625f3782d59b84968e128ef94cf48417f120f6f3ee4ddadeb0c0c11154c53d", func := "finesse/finesselaw11.TrickSmall", spec := "trickSmall", unfollowed := true, recurses := true, apart := false, narrowed := true }
def TrickSmallUptoSaid : Prop := trickSmallUptoRow.holds Try.pinned (OpenSpec.upto trickSmallSpec)

/-- 'finesselaw11.TrickWinners', WHERE WHAT IT READS IS OF BULK AT MOST 1048576: true; the input reads as it did. -/
def trickWinnersUptoRow : OpenClaim := { program := "ytabejgcpihacpaa", sum := "b6625f3782d59b84968e128ef94cf48417f120f6f3ee4ddadeb0c0c11154c53d", func := "finesse/finesselaw11.TrickWinners", spec := "trickWinners", unfollowed := true, recurses := true, apart := false, narrowed := true }
def TrickWinnersUptoSaid : Prop := trickWinnersUptoRow.holds Try.pinned (OpenSpec.upto trickWinnersSpec)

/-- 'finesselaw11.TrickWinner', WHERE WHAT IT READS IS OF BULK AT MOST 1048576: true; the input reads as it did. -/
def trickWinnerUptoRow : OpenClaim := { program := "ytabejgcpihacpaa", sum := "b6625f3782d59b84968e128ef94cf48417f120f6f3ee4ddadeb0c0c11154c53d", func := "finesse/finesselaw11.TrickWinner", spec := "trickWinner", unfollowed := true, recurses := true, apart := false, narrowed := true }
def TrickWinnerUptoSaid : Prop := trickWinnerUptoRow.holds Try.pinned (OpenSpec.upto trickWinnerSpec)

/-- 'finesselaw11.TrickWrong', WHERE WHAT IT READS IS OF BULK AT MOST 1048576: true; the input reads as it did. -/
def trickWrongUptoRow : OpenClaim := { program := "ytabejgcpihacpaa", sum := "b6625f3782d59b84968e128ef94cf48417f120f6f3ee4ddadeb0c0c11154c53d", func := "finesse/finesselaw11.TrickWrong", spec := "trickWrong", unfollowed := true, recurses := true, apart := false, narrowed := true }
def TrickWrongUptoSaid : Prop := trickWrongUptoRow.holds Try.pinned (OpenSpec.upto trickWrongSpec)

/-- 'finesselaw11.TrickFollow', WHERE WHAT IT READS IS OF BULK AT MOST 1048576: true; the input reads as it did. -/
def trickFollowUptoRow : OpenClaim := { program := "ytabejgcpihacpaa", sum := "b6625f3782d59b84968e128ef94cf48417f120f6f3ee4ddadeb0c0c11154c53d", func := "finesse/finesselaw11.TrickFollow", spec := "trickFollow", unfollowed := true, recurses := true, apart := false, narrowed := true }
def TrickFollowUptoSaid : Prop := trickFollowUptoRow.holds Try.pinned (OpenSpec.upto trickFollowSpec)

end Rows
end Go.Proofs.Ytabejgcpihacpaa
