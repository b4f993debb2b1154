/-
  No cell of these rows narrows 'for every input' (looked for: loops, veiled, ifaces, maps, wideKeys, modest, calm, conditions, laid).
  DERIVED. THE GIVEN ROWS OF THIS SEAT. 8 by the template 'for every input the law returns true; each argument reads behind the call as it read before'; 0 by the template 'total and deterministic' (their statements: YtbfadogjkhoohaaTotals.lean).
  GIVEN WITH THE SEED: the statements are not yours to turn. If you find one false, say at which input.
  Laid BY PROGRAM, IN A SANDBOX (cutbox-rows.mjs): the forced cells as the released guide's own fill.sh prints them over the translation aa5b9d60e08c0e9b… (all of the seat's roots in one cut). By AI agents, Wed Nov 11 2026. No macro, syntax, notation, axiom, sorry.
-/
import Derived.Test.YtbfadogjkhoohaaChecked
import GoSem.Claim
import GoSem.ClaimJoined
import GoSem.ClaimMapViews
import Derived.JoinedTies
import Derived.KernelRfl
namespace Go.Proofs.Ytbfadogjkhoohaa
/- THE CELL 'sum', in the pinned program and in every row, IS THE sha256 OF THE DUMP (.gsa) THAT YtbfadogjkhoohaaProg.lean LOADS. Nothing in Lean hashes anything: it is a label: what it is worth is what the hold of that sum in a sandbox is worth. -/
noncomputable def Try.pinned : Pinned := { name := "ytbfadogjkhoohaa", sum := "aa5b9d60e08c0e9b31983b4185828e35aa2960bd4beca99a2c66a81d7000e4a3", checked := Try.checked }
namespace Rows
def none {H : Type} : Left H := { results := [], args := [] }

/-- 'waterlinelaw17.SeqChanges': WHATEVER THE INPUT: true; the input reads as it did. -/
def seqChangesSpec : ChangeSpec := { name := "seqChanges", fn := fun _ => fun
  | [d1, d2, d3] => { results := [.lit (.bool true)], args := [d1, d2, d3] }
  | _ => none }
def seqChangesRow : OpenClaim := { program := "ytbfadogjkhoohaa", sum := "aa5b9d60e08c0e9b31983b4185828e35aa2960bd4beca99a2c66a81d7000e4a3", func := "waterline/waterlinelaw17.SeqChanges", spec := "seqChanges", unfollowed := true, recurses := true, apart := false }
def SeqChangesSaid : Prop := seqChangesRow.holds Try.pinned (OpenSpec.ofChange seqChangesSpec)

/-- ITS FALSE NEIGHBOUR: 'it returns false'. Refute it at one input. -/
def seqChangesWrong : ChangeSpec := { name := "seqChanges", fn := fun _ => fun
  | [d1, d2, d3] => { results := [.lit (.bool false)], args := [d1, d2, d3] }
  | _ => none }
def SeqChangesWrongFalsely : Prop := seqChangesRow.holds Try.pinned (OpenSpec.ofChange seqChangesWrong)

/-- 'waterlinelaw17.SeqCounts': WHATEVER THE INPUT: true; the input reads as it did. -/
def seqCountsSpec : ChangeSpec := { name := "seqCounts", fn := fun _ => fun
  | [d] => { results := [.lit (.bool true)], args := [d] }
  | _ => none }
def seqCountsRow : OpenClaim := { program := "ytbfadogjkhoohaa", sum := "aa5b9d60e08c0e9b31983b4185828e35aa2960bd4beca99a2c66a81d7000e4a3", func := "waterline/waterlinelaw17.SeqCounts", spec := "seqCounts", unfollowed := true, recurses := true, apart := false }
def SeqCountsSaid : Prop := seqCountsRow.holds Try.pinned (OpenSpec.ofChange seqCountsSpec)

/-- ITS FALSE NEIGHBOUR: 'it returns false'. Refute it at one input. -/
def seqCountsWrong : ChangeSpec := { name := "seqCounts", fn := fun _ => fun
  | [d] => { results := [.lit (.bool false)], args := [d] }
  | _ => none }
def SeqCountsWrongFalsely : Prop := seqCountsRow.holds Try.pinned (OpenSpec.ofChange seqCountsWrong)

/-- 'waterlinelaw16.LockHolds': WHATEVER THE INPUT: true; the input reads as it did. -/
def lockHoldsSpec : ChangeSpec := { name := "lockHolds", fn := fun _ => fun
  | [d] => { results := [.lit (.bool true)], args := [d] }
  | _ => none }
def lockHoldsRow : OpenClaim := { program := "ytbfadogjkhoohaa", sum := "aa5b9d60e08c0e9b31983b4185828e35aa2960bd4beca99a2c66a81d7000e4a3", func := "waterline/waterlinelaw16.LockHolds", spec := "lockHolds", unfollowed := true, recurses := true, apart := false }
def LockHoldsSaid : Prop := lockHoldsRow.holds Try.pinned (OpenSpec.ofChange lockHoldsSpec)

/-- ITS FALSE NEIGHBOUR: 'it returns false'. Refute it at one input. -/
def lockHoldsWrong : ChangeSpec := { name := "lockHolds", fn := fun _ => fun
  | [d] => { results := [.lit (.bool false)], args := [d] }
  | _ => none }
def LockHoldsWrongFalsely : Prop := lockHoldsRow.holds Try.pinned (OpenSpec.ofChange lockHoldsWrong)

/-- 'waterlinelaw16.LockTurns': WHATEVER THE INPUT: true; the input reads as it did. -/
def lockTurnsSpec : ChangeSpec := { name := "lockTurns", fn := fun _ => fun
  | [d1, d2] => { results := [.lit (.bool true)], args := [d1, d2] }
  | _ => none }
def lockTurnsRow : OpenClaim := { program := "ytbfadogjkhoohaa", sum := "aa5b9d60e08c0e9b31983b4185828e35aa2960bd4beca99a2c66a81d7000e4a3", func := "waterline/waterlinelaw16.LockTurns", spec := "lockTurns", unfollowed := true, recurses := true, apart := false }
def LockTurnsSaid : Prop := lockTurnsRow.holds Try.pinned (OpenSpec.ofChange lockTurnsSpec)

/-- ITS FALSE NEIGHBOUR: 'it returns false'. Refute it at one input. -/
def lockTurnsWrong : ChangeSpec := { name := "lockTurns", fn := fun _ => fun
  | [d1, d2] => { results := [.lit (.bool false)], args := [d1, d2] }
  | _ => none }
def LockTurnsWrongFalsely : Prop := lockTurnsRow.holds Try.pinned (OpenSpec.ofChange lockTurnsWrong)

/-- 'waterlinelaw17.SeqHolds': WHATEVER THE INPUT: true; the input reads as it did. -/
def seqHoldsSpec : ChangeSpec := { name := "seqHolds", fn := fun _ => fun
  | [d] => { results := [.lit (.bool true)], args := [d] }
  | _ => none }
def seqHoldsRow : OpenClaim := { program := "ytbfadogjkhoohaa", sum := "aa5b9d60e08c0e9b31983b4185828e35aa2960bd4beca99a2c66a81d7000e4a3", func := "waterline/waterlinelaw17.SeqHolds", spec := "seqHolds", unfollowed := true, recurses := true, apart := false }
def SeqHoldsSaid : Prop := seqHoldsRow.holds Try.pinned (OpenSpec.ofChange seqHoldsSpec)

/-- ITS FALSE NEIGHBOUR: 'it returns false'. Refute it at one input. -/
def seqHoldsWrong : ChangeSpec := { name := "seqHolds", fn := fun _ => fun
  | [d] => { results := [.lit (.bool false)], args := [d] }
  | _ => none }
def SeqHoldsWrongFalsely : Prop := seqHoldsRow.holds Try.pinned (OpenSpec.ofChange seqHoldsWrong)

/-- 'waterlinelaw16.LockPlays': WHATEVER THE INPUT: true; the input reads as it did. -/
def lockPlaysSpec : ChangeSpec := { name := "lockPlays", fn := fun _ => fun
  | [d] => { results := [.lit (.bool true)], args := [d] }
  | _ => none }
def lockPlaysRow : OpenClaim := { program := "ytbfadogjkhoohaa", sum := "aa5b9d60e08c0e9b31983b4185828e35aa2960bd4beca99a2c66a81d7000e4a3", func := "waterline/waterlinelaw16.LockPlays", spec := "lockPlays", unfollowed := true, recurses := true, apart := false }
def LockPlaysSaid : Prop := lockPlaysRow.holds Try.pinned (OpenSpec.ofChange lockPlaysSpec)

/-- ITS FALSE NEIGHBOUR: 'it returns false'. Refute it at one input. -/
def lockPlaysWrong : ChangeSpec := { name := "lockPlays", fn := fun _ => fun
  | [d] => { results := [.lit (.bool false)], args := [d] }
  | _ => none }
def LockPlaysWrongFalsely : Prop := lockPlaysRow.holds Try.pinned (OpenSpec.ofChange lockPlaysWrong)

/-- 'waterlinelaw16.LockCopies': WHATEVER THE INPUT: true; the input reads as it did. -/
def lockCopiesSpec : ChangeSpec := { name := "lockCopies", fn := fun _ => fun
  | [d1, d2, d3] => { results := [.lit (.bool true)], args := [d1, d2, d3] }
  | _ => none }
def lockCopiesRow : OpenClaim := { program := "ytbfadogjkhoohaa", sum := "aa5b9d60e08c0e9b31983b4185828e35aa2960bd4beca99a2c66a81d7000e4a3", func := "waterline/waterlinelaw16.LockCopies", spec := "lockCopies", unfollowed := true, recurses := true, apart := false }
def LockCopiesSaid : Prop := lockCopiesRow.holds Try.pinned (OpenSpec.ofChange lockCopiesSpec)

/-- ITS FALSE NEIGHBOUR: 'it returns false'. Refute it at one input. -/
def lockCopiesWrong : ChangeSpec := { name := "lockCopies", fn := fun _ => fun
  | [d1, d2, d3] => { results := [.lit (.bool false)], args := [d1, d2, d3] }
  | _ => none }
def LockCopiesWrongFalsely : Prop := lockCopiesRow.holds Try.pinned (OpenSpec.ofChange lockCopiesWrong)

/-- 'waterlinelaw17.SeqPlays': WHATEVER THE INPUT: true; the input reads as it did. -/
def seqPlaysSpec : ChangeSpec := { name := "seqPlays", fn := fun _ => fun
  | [d1, d2, d3] => { results := [.lit (.bool true)], args := [d1, d2, d3] }
  | _ => none }
def seqPlaysRow : OpenClaim := { program := "ytbfadogjkhoohaa", sum := "aa5b9d60e08c0e9b31983b4185828e35aa2960bd4beca99a2c66a81d7000e4a3", func := "waterline/waterlinelaw17.SeqPlays", spec := "seqPlays", unfollowed := true, recurses := true, apart := false }
def SeqPlaysSaid : Prop := seqPlaysRow.holds Try.pinned (OpenSpec.ofChange seqPlaysSpec)

/-- ITS FALSE NEIGHBOUR: 'it returns false'. Refute it at one input. -/
def seqPlaysWrong : ChangeSpec := { name := "seqPlays", fn := fun _ => fun
  | [d1, d2, d3] => { results := [.lit (.bool false)], args := [d1, d2, d3] }
  | _ => none }
def SeqPlaysWrongFalsely : Prop := seqPlaysRow.holds Try.pinned (OpenSpec.ofChange seqPlaysWrong)

/- THE SECOND FORM. 'bulk': how many values and letters a reading holds, each counted each time it is reached (what is shared counts as often as it is met; a slice's spare places count too). A statement '..UptoSaid' is the law's where the arguments, and the package variables that the reading takes, are together of bulk at most 1048576: NARROWER than '..Said'. Prove '..Said' where nothing that the law and all that it calls make is longer than what came in: it says more and counts as full. Else prove '..UptoSaid'. A law counts once. -/
mutual
def uptoBulk {H : Type} : DataW H → Nat
  | .lit (.string bytes) => bytes.length + 1
  | .lit _ => 1
  | .nil => 1
  | .ptr d => uptoBulk d + 1
  | .slice elems spare => uptoBulkAll elems + uptoBulkAll spare + 1
  | .agg parts => uptoBulkAll parts + 1
  | .iface _ d => uptoBulk d + 1
  | .map entries => uptoBulkEntries entries + 1
  | .held _ => 1
def uptoBulkAll {H : Type} : List (DataW H) → Nat
  | [] => 0
  | d :: r => uptoBulk d + uptoBulkAll r
def uptoBulkEntries {H : Type} : List (Lit × DataW H) → Nat
  | [] => 0
  | x :: r => uptoBulkEntry x + uptoBulkEntries r
def uptoBulkEntry {H : Type} : Lit × DataW H → Nat
  | (.string bytes, d) => bytes.length + uptoBulk d + 1
  | (_, d) => uptoBulk d + 1
 end
def uptoSmall : (H : Type) → List (DataW H) → Bool := fun _ ds => decide (uptoBulkAll ds ≤ 1048576)
def OpenSpec.upto (s : _root_.Go.ChangeSpec) : _root_.Go.OpenSpec := { _root_.Go.OpenSpec.ofChange s with cond := some uptoSmall }

/-- 'waterlinelaw17.SeqChanges', WHERE WHAT IT READS IS OF BULK AT MOST 1048576: true; the input reads as it did. -/
def seqChangesUptoRow : OpenClaim := { program := "ytbfadogjkhoohaa", sum := "aa5b9d60e08c0e9b31983b4185828e35aa2960bd4beca99a2c66a81d7000e4a3", func := "waterline/waterlinelaw17.SeqChanges", spec := "seqChanges", unfollowed := true, recurses := true, apart := false, narrowed := true }
def SeqChangesUptoSaid : Prop := seqChangesUptoRow.holds Try.pinned (OpenSpec.upto seqChangesSpec)

/-- 'waterlinelaw17.SeqCounts', WHERE WHAT IT READS IS OF BULK AT MOST 1048576: true; the input reads as it did. -/
def seqCountsUptoRow : OpenClaim := { program := "ytbfadogjkhoohaa", sum := "aa5b9d60e08c0e9b31983b4185828e35aa2960bd4beca99a2c66a81d7000e4a3", func := "waterline/waterlinelaw17.SeqCounts", spec := "seqCounts", unfollowed := true, recurses := true, apart := false, narrowed := true }
def SeqCountsUptoSaid : Prop := seqCountsUptoRow.holds Try.pinned (OpenSpec.upto seqCountsSpec)

/-- 'waterlinelaw16.LockHolds', WHERE WHAT IT READS IS OF BULK AT MOST 1048576: true; the input reads as it did. -/
def lockHoldsUptoRow : OpenClaim := { program := "ytbfadogjkhoohaa", sum := "aa5b9d60e08c0e9b31983b4185828e35aa2960bd4beca99a2c66a81d7000e4a3", func := "waterline/waterlinelaw16.LockHolds", spec := "lockHolds", unfollowed := true, recurses := true, apart := false, narrowed := true }
def LockHoldsUptoSaid : Prop := lockHoldsUptoRow.holds Try.pinned (OpenSpec.upto lockHoldsSpec)

/-- 'waterlinelaw16.LockTurns', WHERE WHAT IT READS IS OF BULK AT MOST 1048576: true; the input reads as it did. -/
def lockTurnsUptoRow : OpenClaim := { program := "ytbfadogjkhoohaa", sum := "aa5b9d60e08c0e9b31983b4185828e35aa2960bd4beca99a2c66a81d7000e4a3", func := "waterline/waterlinelaw16.LockTurns", spec := "lockTurns", unfollowed := true, recurses := true, apart := false, narrowed := true }
def LockTurnsUptoSaid : Prop := lockTurnsUptoRow.holds Try.pinned (OpenSpec.upto lockTurnsSpec)

/-- 'waterlinelaw17.SeqHolds', WHERE WHAT IT READS IS OF BULK AT MOST 1048576: true; the input reads as it did. -/
def seqHoldsUptoRow : OpenClaim := { program := "ytbfadogjkhoohaa", sum := "aa5b9d60e08c0e9b31983b4185828e35aa2960bd4beca99a2c66a81d7000e4a3", func := "waterline/waterlinelaw17.SeqHolds", spec := "seqHolds", unfollowed := true, recurses := true, apart := false, narrowed := true }
def SeqHoldsUptoSaid : Prop := seqHoldsUptoRow.holds Try.pinned (OpenSpec.upto seqHoldsSpec)

/-- 'waterlinelaw16.LockPlays', WHERE WHAT IT READS IS OF BULK AT MOST 1048576: true; the input reads as it did. -/
def lockPlaysUptoRow : OpenClaim := { program := "ytbfadogjkhoohaa", sum := "aa5b9d60e08c0e9b31983b4185828e35aa2960bd4beca99a2c66a81d7000e4a3", func := "waterline/waterlinelaw16.LockPlays", spec := "lockPlays", unfollowed := true, recurses := true, apart := false, narrowed := true }
def LockPlaysUptoSaid : Prop := lockPlaysUptoRow.holds Try.pinned (OpenSpec.upto lockPlaysSpec)

/-- 'waterlinelaw16.LockCopies', WHERE WHAT IT READS IS OF BULK AT MOST 1048576: true; the input reads as it did. -/
def lockCopiesUptoRow : OpenClaim := { program := "ytbfadogjkhoohaa", sum := "aa5b9d60e08c0e9b31983b4185828e35aa2960bd4beca99a2c66a81d7000e4a3", func := "waterline/waterlinelaw16.LockCopies", spec := "lockCopies", unfollowed := true, recurses := true, apart := false, narrowed := true }
def LockCopiesUptoSaid : Prop := lockCopiesUptoRow.holds Try.pinned (OpenSpec.upto lockCopiesSpec)

/-- 'waterlinelaw17.SeqPlays', WHERE WHAT IT READS IS OF BULK AT MOST 1048576: true; the input reads as it did. -/
def seqPlaysUptoRow : OpenClaim := { program := "ytbfadogjkhoohaa", sum := "aa5b9d60e08c0e9b31983b4185828e35aa2960bd4beca99a2c66a81d7000e4a3", func := "waterline/waterlinelaw17.SeqPlays", spec := "seqPlays", unfollowed := true, recurses := true, apart := false, narrowed := true }
def SeqPlaysUptoSaid : Prop := seqPlaysUptoRow.holds Try.pinned (OpenSpec.upto seqPlaysSpec)

end Rows
end Go.Proofs.Ytbfadogjkhoohaa
