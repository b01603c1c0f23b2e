/-
  No cell of these rows narrows 'for every input' (looked for: loops, veiled, ifaces, maps, wideKeys, modest, calm, conditions, laid).
  DERIVED. THE GIVEN ROWS OF THIS SEAT. 9 by the template 'for every input the law returns true; each argument reads behind the call as it read before'; 0 by the template 'total and deterministic' (their statements: YtiedecekbdaohaaTotals.lean).
  GIVEN WITH THE SEED: the statements are not yours to turn. If you find one false, say at which input.
  Laid BY PROGRAM, IN A SANDBOX (cutbox-rows.mjs): the forced cells as the released guide's own fill.sh prints them over the translation 05382c681fc9c373… (all of the seat's roots in one cut). By AI agents, Wed Nov 11 2026. No macro, syntax, notation, axiom, sorry.
-/
import Derived.Test.YtiedecekbdaohaaChecked
import GoSem.Claim
import GoSem.ClaimJoined
import GoSem.ClaimMapViews
import Derived.JoinedTies
import Derived.KernelRfl
namespace Go.Proofs.Ytiedecekbdaohaa
/- THE CELL 'sum', in the pinned program and in every row, IS THE sha256 OF THE DUMP (.gsa) THAT YtiedecekbdaohaaProg.lean LOADS. Nothing in Lean hashes anything: it is a label: what it is worth is what the hold of that sum in a sandbox is worth. -/
noncomputable def Try.pinned : Pinned := { name := "ytiedecekbdaohaa", sum := "05382c681fc9c373ed6faf35be991f9ead5f371dd5958e6141012d6f567112a3", checked := Try.checked }
namespace Rows
def none {H : Type} : Left H := { results := [], args := [] }

/-- 'finesselaw36.PairingTells': WHATEVER THE INPUT: true; the input reads as it did. -/
def pairingTellsSpec : ChangeSpec := { name := "pairingTells", fn := fun _ => fun
  | [d1, d2, d3, d4, d5, d6] => { results := [.lit (.bool true)], args := [d1, d2, d3, d4, d5, d6] }
  | _ => none }
def pairingTellsRow : OpenClaim := { program := "ytiedecekbdaohaa", sum := "05382c681fc9c373ed6faf35be991f9ead5f371dd5958e6141012d6f567112a3", func := "finesse/finesselaw36.PairingTells", spec := "pairingTells", unfollowed := true, recurses := true, apart := false }
def PairingTellsSaid : Prop := pairingTellsRow.holds Try.pinned (OpenSpec.ofChange pairingTellsSpec)

/-- ITS FALSE NEIGHBOUR: 'it returns false'. Refute it at one input. -/
def pairingTellsWrong : ChangeSpec := { name := "pairingTells", fn := fun _ => fun
  | [d1, d2, d3, d4, d5, d6] => { results := [.lit (.bool false)], args := [d1, d2, d3, d4, d5, d6] }
  | _ => none }
def PairingTellsWrongFalsely : Prop := pairingTellsRow.holds Try.pinned (OpenSpec.ofChange pairingTellsWrong)

/-- 'finesselaw36.PairingDraws': WHATEVER THE INPUT: true; the input reads as it did. -/
def pairingDrawsSpec : ChangeSpec := { name := "pairingDraws", fn := fun _ => fun
  | [d1, d2, d3] => { results := [.lit (.bool true)], args := [d1, d2, d3] }
  | _ => none }
def pairingDrawsRow : OpenClaim := { program := "ytiedecekbdaohaa", sum := "05382c681fc9c373ed6faf35be991f9ead5f371dd5958e6141012d6f567112a3", func := "finesse/finesselaw36.PairingDraws", spec := "pairingDraws", unfollowed := true, recurses := true, apart := false }
def PairingDrawsSaid : Prop := pairingDrawsRow.holds Try.pinned (OpenSpec.ofChange pairingDrawsSpec)

/-- ITS FALSE NEIGHBOUR: 'it returns false'. Refute it at one input. -/
def pairingDrawsWrong : ChangeSpec := { name := "pairingDraws", fn := fun _ => fun
  | [d1, d2, d3] => { results := [.lit (.bool false)], args := [d1, d2, d3] }
  | _ => none }
def PairingDrawsWrongFalsely : Prop := pairingDrawsRow.holds Try.pinned (OpenSpec.ofChange pairingDrawsWrong)

/-- 'finesselaw36.PairingSmall': WHATEVER THE INPUT: true; the input reads as it did. -/
def pairingSmallSpec : ChangeSpec := { name := "pairingSmall", fn := fun _ => fun
  | [] => { results := [.lit (.bool true)], args := [] }
  | _ => none }
def pairingSmallRow : OpenClaim := { program := "ytiedecekbdaohaa", sum := "05382c681fc9c373ed6faf35be991f9ead5f371dd5958e6141012d6f567112a3", func := "finesse/finesselaw36.PairingSmall", spec := "pairingSmall", unfollowed := true, recurses := true, apart := false }
def PairingSmallSaid : Prop := pairingSmallRow.holds Try.pinned (OpenSpec.ofChange pairingSmallSpec)

/-- ITS FALSE NEIGHBOUR: 'it returns false'. Refute it at one input. -/
def pairingSmallWrong : ChangeSpec := { name := "pairingSmall", fn := fun _ => fun
  | [] => { results := [.lit (.bool false)], args := [] }
  | _ => none }
def PairingSmallWrongFalsely : Prop := pairingSmallRow.holds Try.pinned (OpenSpec.ofChange pairingSmallWrong)

/-- 'finesselaw36.PairingBack': WHATEVER THE INPUT: true; the input reads as it did. -/
def pairingBackSpec : ChangeSpec := { name := "pairingBack", fn := fun _ => fun
  | [d1, d2] => { results := [.lit (.bool true)], args := [d1, d2] }
  | _ => none }
def pairingBackRow : OpenClaim := { program := "ytiedecekbdaohaa", sum := "05382c681fc9c373ed6faf35be991f9ead5f371dd5958e6141012d6f567112a3", func := "finesse/finesselaw36.PairingBack", spec := "pairingBack", unfollowed := true, recurses := true, apart := false }
def PairingBackSaid : Prop := pairingBackRow.holds Try.pinned (OpenSpec.ofChange pairingBackSpec)

/-- ITS FALSE NEIGHBOUR: 'it returns false'. Refute it at one input. -/
def pairingBackWrong : ChangeSpec := { name := "pairingBack", fn := fun _ => fun
  | [d1, d2] => { results := [.lit (.bool false)], args := [d1, d2] }
  | _ => none }
def PairingBackWrongFalsely : Prop := pairingBackRow.holds Try.pinned (OpenSpec.ofChange pairingBackWrong)

/-- 'finesselaw36.PairingBest': WHATEVER THE INPUT: true; the input reads as it did. -/
def pairingBestSpec : ChangeSpec := { name := "pairingBest", fn := fun _ => fun
  | [d1, d2] => { results := [.lit (.bool true)], args := [d1, d2] }
  | _ => none }
def pairingBestRow : OpenClaim := { program := "ytiedecekbdaohaa", sum := "05382c681fc9c373ed6faf35be991f9ead5f371dd5958e6141012d6f567112a3", func := "finesse/finesselaw36.PairingBest", spec := "pairingBest", unfollowed := true, recurses := true, apart := false }
def PairingBestSaid : Prop := pairingBestRow.holds Try.pinned (OpenSpec.ofChange pairingBestSpec)

/-- ITS FALSE NEIGHBOUR: 'it returns false'. Refute it at one input. -/
def pairingBestWrong : ChangeSpec := { name := "pairingBest", fn := fun _ => fun
  | [d1, d2] => { results := [.lit (.bool false)], args := [d1, d2] }
  | _ => none }
def PairingBestWrongFalsely : Prop := pairingBestRow.holds Try.pinned (OpenSpec.ofChange pairingBestWrong)

/-- 'finesselaw36.PairingFewer': WHATEVER THE INPUT: true; the input reads as it did. -/
def pairingFewerSpec : ChangeSpec := { name := "pairingFewer", fn := fun _ => fun
  | [d1, d2, d3, d4] => { results := [.lit (.bool true)], args := [d1, d2, d3, d4] }
  | _ => none }
def pairingFewerRow : OpenClaim := { program := "ytiedecekbdaohaa", sum := "05382c681fc9c373ed6faf35be991f9ead5f371dd5958e6141012d6f567112a3", func := "finesse/finesselaw36.PairingFewer", spec := "pairingFewer", unfollowed := true, recurses := true, apart := false }
def PairingFewerSaid : Prop := pairingFewerRow.holds Try.pinned (OpenSpec.ofChange pairingFewerSpec)

/-- ITS FALSE NEIGHBOUR: 'it returns false'. Refute it at one input. -/
def pairingFewerWrong : ChangeSpec := { name := "pairingFewer", fn := fun _ => fun
  | [d1, d2, d3, d4] => { results := [.lit (.bool false)], args := [d1, d2, d3, d4] }
  | _ => none }
def PairingFewerWrongFalsely : Prop := pairingFewerRow.holds Try.pinned (OpenSpec.ofChange pairingFewerWrong)

/-- 'finesselaw36.PairingRounds': WHATEVER THE INPUT: true; the input reads as it did. -/
def pairingRoundsSpec : ChangeSpec := { name := "pairingRounds", fn := fun _ => fun
  | [d] => { results := [.lit (.bool true)], args := [d] }
  | _ => none }
def pairingRoundsRow : OpenClaim := { program := "ytiedecekbdaohaa", sum := "05382c681fc9c373ed6faf35be991f9ead5f371dd5958e6141012d6f567112a3", func := "finesse/finesselaw36.PairingRounds", spec := "pairingRounds", unfollowed := true, recurses := true, apart := false }
def PairingRoundsSaid : Prop := pairingRoundsRow.holds Try.pinned (OpenSpec.ofChange pairingRoundsSpec)

/-- ITS FALSE NEIGHBOUR: 'it returns false'. Refute it at one input. -/
def pairingRoundsWrong : ChangeSpec := { name := "pairingRounds", fn := fun _ => fun
  | [d] => { results := [.lit (.bool false)], args := [d] }
  | _ => none }
def PairingRoundsWrongFalsely : Prop := pairingRoundsRow.holds Try.pinned (OpenSpec.ofChange pairingRoundsWrong)

/-- 'finesselaw36.PairingNamed': WHATEVER THE INPUT: true; the input reads as it did. -/
def pairingNamedSpec : ChangeSpec := { name := "pairingNamed", fn := fun _ => fun
  | [d1, d2, d3] => { results := [.lit (.bool true)], args := [d1, d2, d3] }
  | _ => none }
def pairingNamedRow : OpenClaim := { program := "ytiedecekbdaohaa", sum := "05382c681fc9c373ed6faf35be991f9ead5f371dd5958e6141012d6f567112a3", func := "finesse/finesselaw36.PairingNamed", spec := "pairingNamed", unfollowed := true, recurses := true, apart := false }
def PairingNamedSaid : Prop := pairingNamedRow.holds Try.pinned (OpenSpec.ofChange pairingNamedSpec)

/-- ITS FALSE NEIGHBOUR: 'it returns false'. Refute it at one input. -/
def pairingNamedWrong : ChangeSpec := { name := "pairingNamed", fn := fun _ => fun
  | [d1, d2, d3] => { results := [.lit (.bool false)], args := [d1, d2, d3] }
  | _ => none }
def PairingNamedWrongFalsely : Prop := pairingNamedRow.holds Try.pinned (OpenSpec.ofChange pairingNamedWrong)

/-- 'finesselaw36.PairingWrong': WHATEVER THE INPUT: true; the input reads as it did. -/
def pairingWrongSpec : ChangeSpec := { name := "pairingWrong", fn := fun _ => fun
  | [d1, d2, d3] => { results := [.lit (.bool true)], args := [d1, d2, d3] }
  | _ => none }
def pairingWrongRow : OpenClaim := { program := "ytiedecekbdaohaa", sum := "05382c681fc9c373ed6faf35be991f9ead5f371dd5958e6141012d6f567112a3", func := "finesse/finesselaw36.PairingWrong", spec := "pairingWrong", unfollowed := true, recurses := true, apart := false }
def PairingWrongSaid : Prop := pairingWrongRow.holds Try.pinned (OpenSpec.ofChange pairingWrongSpec)

/-- ITS FALSE NEIGHBOUR: 'it returns false'. Refute it at one input. -/
def pairingWrongWrong : ChangeSpec := { name := "pairingWrong", fn := fun _ => fun
  | [d1, d2, d3] => { results := [.lit (.bool false)], args := [d1, d2, d3] }
  | _ => none }
def PairingWrongWrongFalsely : Prop := pairingWrongRow.holds Try.pinned (OpenSpec.ofChange pairingWrongWrong)

/- THE SECOND FORM. 'bulk': how many values and letters a reading holds, each counted each time it is reached (what is shared counts as often as it is met; a slice's spare places count too). A statement '..UptoSaid' is the law's where the arguments, and the package variables that the reading takes, are together of bulk at most 1048576: NARROWER than '..Said'. Prove '..Said' where nothing that the law and all that it calls make is longer than what came in: it says more and counts as full. Else prove '..UptoSaid'. A law counts once. -/
mutual
def uptoBulk {H : Type} : DataW H → Nat
  | .lit (.string bytes) => bytes.length + 1
  | .lit _ => 1
  | .nil => 1
  | .ptr d => uptoBulk d + 1
  | .slice elems spare => uptoBulkAll elems + uptoBulkAll spare + 1
  | .agg parts => uptoBulkAll parts + 1
  | .iface _ d => uptoBulk d + 1
  | .map entries => uptoBulkEntries entries + 1
  | .held _ => 1
def uptoBulkAll {H : Type} : List (DataW H) → Nat
  | [] => 0
  | d :: r => uptoBulk d + uptoBulkAll r
def uptoBulkEntries {H : Type} : List (Lit × DataW H) → Nat
  | [] => 0
  | x :: r => uptoBulkEntry x + uptoBulkEntries r
def uptoBulkEntry {H : Type} : Lit × DataW H → Nat
  | (.string bytes, d) => bytes.length + uptoBulk d + 1
  | (_, d) => uptoBulk d + 1
 end
def uptoSmall : (H : Type) → List (DataW H) → Bool := fun _ ds => decide (uptoBulkAll ds ≤ 1048576)
def OpenSpec.upto (s : _root_.Go.ChangeSpec) : _root_.Go.OpenSpec := { _root_.Go.OpenSpec.ofChange s with cond := some uptoSmall }

/-- 'finesselaw36.PairingTells', WHERE WHAT IT READS IS OF BULK AT MOST 1048576: true; the input reads as it did. -/
def pairingTellsUptoRow : OpenClaim := { program := "ytiedecekbdaohaa", sum := "05382c681fc9c373ed6faf35be991f9ead5f371dd5958e6141012d6f567112a3", func := "finesse/finesselaw36.PairingTells", spec := "pairingTells", unfollowed := true, recurses := true, apart := false, narrowed := true }
def PairingTellsUptoSaid : Prop := pairingTellsUptoRow.holds Try.pinned (OpenSpec.upto pairingTellsSpec)

/-- 'finesselaw36.PairingDraws', WHERE WHAT IT READS IS OF BULK AT MOST 1048576: true; the input reads as it did. -/
def pairingDrawsUptoRow : OpenClaim := { program := "ytiedecekbdaohaa", sum := "05382c681fc9c373ed6faf35be991f9ead5f371dd5958e6141012d6f567112a3", func := "finesse/finesselaw36.PairingDraws", spec := "pairingDraws", unfollowed := true, recurses := true, apart := false, narrowed := true }
def PairingDrawsUptoSaid : Prop := pairingDrawsUptoRow.holds Try.pinned (OpenSpec.upto pairingDrawsSpec)

/-- 'finesselaw36.PairingSmall', WHERE WHAT IT READS IS OF BULK AT MOST 1048576: true; the input reads as it did. -/
def pairingSmallUptoRow : OpenClaim := { program := "ytiedecekbdaohaa", sum := "05382c681fc9c373ed6faf35be991f9ead5f371dd5958e6141012d6f567112a3", func := "finesse/finesselaw36.PairingSmall", spec := "pairingSmall", unfollowed := true, recurses := true, apart := false, narrowed := true }
def PairingSmallUptoSaid : Prop := pairingSmallUptoRow.holds Try.pinned (OpenSpec.upto pairingSmallSpec)

/-- 'finesselaw36.PairingBack', WHERE WHAT IT READS IS OF BULK AT MOST 1048576: true; the input reads as it did. -/
def pairingBackUptoRow : OpenClaim := { program := "ytiedecekbdaohaa", sum := "05382c681fc9c373ed6faf35be991f9ead5f371dd5958e6141012d6f567112a3", func := "finesse/finesselaw36.PairingBack", spec := "pairingBack", unfollowed := true, recurses := true, apart := false, narrowed := true }
def PairingBackUptoSaid : Prop := pairingBackUptoRow.holds Try.pinned (OpenSpec.upto pairingBackSpec)

/-- 'finesselaw36.PairingBest', WHERE WHAT IT READS IS OF BULK AT MOST 1048576: true; the input reads as it did. -/
def pairingBestUptoRow : OpenClaim := { program := "ytiedecekbdaohaa", sum := "05382c681fc9c373ed6faf35be991f9ead5f371dd5958e6141012d6f567112a3", func := "finesse/finesselaw36.PairingBest", spec := "pairingBest", unfollowed := true, recurses := true, apart := false, narrowed := true }
def PairingBestUptoSaid : Prop := pairingBestUptoRow.holds Try.pinned (OpenSpec.upto pairingBestSpec)

/-- 'finesselaw36.PairingFewer', WHERE WHAT IT READS IS OF BULK AT MOST 1048576: true; the input reads as it did. -/
def pairingFewerUptoRow : OpenClaim := { program := "ytiedecekbdaohaa", sum := "05382c681fc9c373ed6faf35be991f9ead5f371dd5958e6141012d6f567112a3", func := "finesse/finesselaw36.PairingFewer", spec := "pairingFewer", unfollowed := true, recurses := true, apart := false, narrowed := true }
def PairingFewerUptoSaid : Prop := pairingFewerUptoRow.holds Try.pinned (OpenSpec.upto pairingFewerSpec)

/-- 'finesselaw36.PairingRounds', WHERE WHAT IT READS IS OF BULK AT MOST 1048576: true; the input reads as it did. -/
def pairingRoundsUptoRow : OpenClaim := { program := "ytiedecekbdaohaa", sum := "05382c681fc9c373ed6faf35be991f9ead5f371dd5958e6141012d6f567112a3", func := "finesse/finesselaw36.PairingRounds", spec := "pairingRounds", unfollowed := true, recurses := true, apart := false, narrowed := true }
def PairingRoundsUptoSaid : Prop := pairingRoundsUptoRow.holds Try.pinned (OpenSpec.upto pairingRoundsSpec)

/-- 'finesselaw36.PairingNamed', WHERE WHAT IT READS IS OF BULK AT MOST 1048576: true; the input reads as it did. -/
def pairingNamedUptoRow : OpenClaim := { program := "ytiedecekbdaohaa", sum := "05382c681fc9c373ed6faf35be991f9ead5f371dd5958e6141012d6f567112a3", func := "finesse/finesselaw36.PairingNamed", spec := "pairingNamed", unfollowed := true, recurses := true, apart := false, narrowed := true }
def PairingNamedUptoSaid : Prop := pairingNamedUptoRow.holds Try.pinned (OpenSpec.upto pairingNamedSpec)

/-- 'finesselaw36.PairingWrong', WHERE WHAT IT READS IS OF BULK AT MOST 1048576: true; the input reads as it did. -/
def pairingWrongUptoRow : OpenClaim := { program := "ytiedecekbdaohaa", sum := "05382c681fc9c373ed6faf35be991f9ead5f371dd5958e6141012d6f567112a3", func := "finesse/finesselaw36.PairingWrong", spec := "pairingWrong", unfollowed := true, recurses := true, apart := false, narrowed := true }
def PairingWrongUptoSaid : Prop := pairingWrongUptoRow.holds Try.pinned (OpenSpec.upto pairingWrongSpec)

end Rows
end Go.Proofs.Ytiedecekbdaohaa
