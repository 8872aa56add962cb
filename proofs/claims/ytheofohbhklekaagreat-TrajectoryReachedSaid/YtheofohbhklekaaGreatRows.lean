/-
  No cell of these rows narrows 'for every input' (looked for: loops, veiled, ifaces, maps, wideKeys, modest, calm, conditions, laid).
  DERIVED. THE GIVEN ROWS OF THIS SEAT. 8 by the template 'for every input the law returns true; each argument reads behind the call as it read before'; 0 by the template 'total and deterministic' (their statements: YtheofohbhklekaaGreatTotals.lean).
  GIVEN WITH THE SEED: the statements are not yours to turn. If you find one false, say at which input.
  Laid BY PROGRAM, IN A SANDBOX (cutbox-rows.mjs): the forced cells as the released guide's own fill.sh prints them over the translation d2fbf9a607dfac4c… (all of the seat's roots in one cut). By AI agents, Wed Nov 11 2026. No macro, syntax, notation, axiom, sorry.
-/
import Derived.Test.YtheofohbhklekaaGreatChecked
import GoSem.Claim
import GoSem.ClaimJoined
import GoSem.ClaimMapViews
import Derived.JoinedTies
import Derived.KernelRfl
namespace Go.Proofs.YtheofohbhklekaaGreat
/- THE CELL 'sum', in the pinned program and in every row, IS THE sha256 OF THE DUMP (.gsa) THAT YtheofohbhklekaaGreatProg.lean LOADS. Nothing in Lean hashes anything: it is a label: what it is worth is what the hold of that sum in a sandbox is worth. -/
noncomputable def Tryz.pinned : Pinned := { name := "ytheofohbhklekaagreat", sum := "d2fbf9a607dfac4c4c10320475000a73b337931f01c15c041b0fb055251421ff", checked := Tryz.checked }
namespace Rows
def none {H : Type} : Left H := { results := [], args := [] }

/-- 'overflightlaw16.TrajectorySpec': WHATEVER THE INPUT: true; the input reads as it did. -/
def trajectorySpecSpec : ChangeSpec := { name := "trajectorySpec", fn := fun _ => fun
  | [d1, d2, d3] => { results := [.lit (.bool true)], args := [d1, d2, d3] }
  | _ => none }
def trajectorySpecRow : OpenClaim := { program := "ytheofohbhklekaagreat", sum := "d2fbf9a607dfac4c4c10320475000a73b337931f01c15c041b0fb055251421ff", func := "overflight/overflightlaw16.TrajectorySpec", spec := "trajectorySpec", inPlace := ["internal/bytealg.IndexByteString"], unfollowed := true, recurses := true, apart := false }
def TrajectorySpecSaid : Prop := trajectorySpecRow.holds Tryz.pinned (OpenSpec.ofChange trajectorySpecSpec)

/-- ITS FALSE NEIGHBOUR: 'it returns false'. Refute it at one input. -/
def trajectorySpecWrong : ChangeSpec := { name := "trajectorySpec", fn := fun _ => fun
  | [d1, d2, d3] => { results := [.lit (.bool false)], args := [d1, d2, d3] }
  | _ => none }
def TrajectorySpecWrongFalsely : Prop := trajectorySpecRow.holds Tryz.pinned (OpenSpec.ofChange trajectorySpecWrong)

/-- 'overflightlaw16.TrajectoryAllSpec': WHATEVER THE INPUT: true; the input reads as it did. -/
def trajectoryAllSpecSpec : ChangeSpec := { name := "trajectoryAllSpec", fn := fun _ => fun
  | [d1, d2, d3, d4] => { results := [.lit (.bool true)], args := [d1, d2, d3, d4] }
  | _ => none }
def trajectoryAllSpecRow : OpenClaim := { program := "ytheofohbhklekaagreat", sum := "d2fbf9a607dfac4c4c10320475000a73b337931f01c15c041b0fb055251421ff", func := "overflight/overflightlaw16.TrajectoryAllSpec", spec := "trajectoryAllSpec", inPlace := ["internal/bytealg.IndexByteString"], unfollowed := true, recurses := true, apart := false }
def TrajectoryAllSpecSaid : Prop := trajectoryAllSpecRow.holds Tryz.pinned (OpenSpec.ofChange trajectoryAllSpecSpec)

/-- ITS FALSE NEIGHBOUR: 'it returns false'. Refute it at one input. -/
def trajectoryAllSpecWrong : ChangeSpec := { name := "trajectoryAllSpec", fn := fun _ => fun
  | [d1, d2, d3, d4] => { results := [.lit (.bool false)], args := [d1, d2, d3, d4] }
  | _ => none }
def TrajectoryAllSpecWrongFalsely : Prop := trajectoryAllSpecRow.holds Tryz.pinned (OpenSpec.ofChange trajectoryAllSpecWrong)

/-- 'overflightlaw16.TrajectoryExact': WHATEVER THE INPUT: true; the input reads as it did. -/
def trajectoryExactSpec : ChangeSpec := { name := "trajectoryExact", fn := fun _ => fun
  | [d1, d2, d3, d4] => { results := [.lit (.bool true)], args := [d1, d2, d3, d4] }
  | _ => none }
def trajectoryExactRow : OpenClaim := { program := "ytheofohbhklekaagreat", sum := "d2fbf9a607dfac4c4c10320475000a73b337931f01c15c041b0fb055251421ff", func := "overflight/overflightlaw16.TrajectoryExact", spec := "trajectoryExact", inPlace := ["internal/bytealg.IndexByteString"], unfollowed := true, recurses := true, apart := false }
def TrajectoryExactSaid : Prop := trajectoryExactRow.holds Tryz.pinned (OpenSpec.ofChange trajectoryExactSpec)

/-- ITS FALSE NEIGHBOUR: 'it returns false'. Refute it at one input. -/
def trajectoryExactWrong : ChangeSpec := { name := "trajectoryExact", fn := fun _ => fun
  | [d1, d2, d3, d4] => { results := [.lit (.bool false)], args := [d1, d2, d3, d4] }
  | _ => none }
def TrajectoryExactWrongFalsely : Prop := trajectoryExactRow.holds Tryz.pinned (OpenSpec.ofChange trajectoryExactWrong)

/-- 'overflightlaw16.TrajectoryReached': WHATEVER THE INPUT: true; the input reads as it did. -/
def trajectoryReachedSpec : ChangeSpec := { name := "trajectoryReached", fn := fun _ => fun
  | [d1, d2, d3] => { results := [.lit (.bool true)], args := [d1, d2, d3] }
  | _ => none }
def trajectoryReachedRow : OpenClaim := { program := "ytheofohbhklekaagreat", sum := "d2fbf9a607dfac4c4c10320475000a73b337931f01c15c041b0fb055251421ff", func := "overflight/overflightlaw16.TrajectoryReached", spec := "trajectoryReached", inPlace := ["internal/bytealg.IndexByteString"], unfollowed := true, recurses := true, apart := false }
def TrajectoryReachedSaid : Prop := trajectoryReachedRow.holds Tryz.pinned (OpenSpec.ofChange trajectoryReachedSpec)

/-- ITS FALSE NEIGHBOUR: 'it returns false'. Refute it at one input. -/
def trajectoryReachedWrong : ChangeSpec := { name := "trajectoryReached", fn := fun _ => fun
  | [d1, d2, d3] => { results := [.lit (.bool false)], args := [d1, d2, d3] }
  | _ => none }
def TrajectoryReachedWrongFalsely : Prop := trajectoryReachedRow.holds Tryz.pinned (OpenSpec.ofChange trajectoryReachedWrong)

/-- 'overflightlaw16.TrajectoryMoves': WHATEVER THE INPUT: true; the input reads as it did. -/
def trajectoryMovesSpec : ChangeSpec := { name := "trajectoryMoves", fn := fun _ => fun
  | [d1, d2, d3] => { results := [.lit (.bool true)], args := [d1, d2, d3] }
  | _ => none }
def trajectoryMovesRow : OpenClaim := { program := "ytheofohbhklekaagreat", sum := "d2fbf9a607dfac4c4c10320475000a73b337931f01c15c041b0fb055251421ff", func := "overflight/overflightlaw16.TrajectoryMoves", spec := "trajectoryMoves", inPlace := ["internal/bytealg.IndexByteString"], unfollowed := true, recurses := true, apart := false }
def TrajectoryMovesSaid : Prop := trajectoryMovesRow.holds Tryz.pinned (OpenSpec.ofChange trajectoryMovesSpec)

/-- ITS FALSE NEIGHBOUR: 'it returns false'. Refute it at one input. -/
def trajectoryMovesWrong : ChangeSpec := { name := "trajectoryMoves", fn := fun _ => fun
  | [d1, d2, d3] => { results := [.lit (.bool false)], args := [d1, d2, d3] }
  | _ => none }
def TrajectoryMovesWrongFalsely : Prop := trajectoryMovesRow.holds Tryz.pinned (OpenSpec.ofChange trajectoryMovesWrong)

/-- 'overflightlaw16.TrajectoryWindow': WHATEVER THE INPUT: true; the input reads as it did. -/
def trajectoryWindowSpec : ChangeSpec := { name := "trajectoryWindow", fn := fun _ => fun
  | [d1, d2, d3] => { results := [.lit (.bool true)], args := [d1, d2, d3] }
  | _ => none }
def trajectoryWindowRow : OpenClaim := { program := "ytheofohbhklekaagreat", sum := "d2fbf9a607dfac4c4c10320475000a73b337931f01c15c041b0fb055251421ff", func := "overflight/overflightlaw16.TrajectoryWindow", spec := "trajectoryWindow", inPlace := ["internal/bytealg.IndexByteString"], unfollowed := true, recurses := true, apart := false }
def TrajectoryWindowSaid : Prop := trajectoryWindowRow.holds Tryz.pinned (OpenSpec.ofChange trajectoryWindowSpec)

/-- ITS FALSE NEIGHBOUR: 'it returns false'. Refute it at one input. -/
def trajectoryWindowWrong : ChangeSpec := { name := "trajectoryWindow", fn := fun _ => fun
  | [d1, d2, d3] => { results := [.lit (.bool false)], args := [d1, d2, d3] }
  | _ => none }
def TrajectoryWindowWrongFalsely : Prop := trajectoryWindowRow.holds Tryz.pinned (OpenSpec.ofChange trajectoryWindowWrong)

/-- 'overflightlaw16.TrajectoryLegs': WHATEVER THE INPUT: true; the input reads as it did. -/
def trajectoryLegsSpec : ChangeSpec := { name := "trajectoryLegs", fn := fun _ => fun
  | [d1, d2, d3] => { results := [.lit (.bool true)], args := [d1, d2, d3] }
  | _ => none }
def trajectoryLegsRow : OpenClaim := { program := "ytheofohbhklekaagreat", sum := "d2fbf9a607dfac4c4c10320475000a73b337931f01c15c041b0fb055251421ff", func := "overflight/overflightlaw16.TrajectoryLegs", spec := "trajectoryLegs", inPlace := ["internal/bytealg.IndexByteString"], unfollowed := true, recurses := true, apart := false }
def TrajectoryLegsSaid : Prop := trajectoryLegsRow.holds Tryz.pinned (OpenSpec.ofChange trajectoryLegsSpec)

/-- ITS FALSE NEIGHBOUR: 'it returns false'. Refute it at one input. -/
def trajectoryLegsWrong : ChangeSpec := { name := "trajectoryLegs", fn := fun _ => fun
  | [d1, d2, d3] => { results := [.lit (.bool false)], args := [d1, d2, d3] }
  | _ => none }
def TrajectoryLegsWrongFalsely : Prop := trajectoryLegsRow.holds Tryz.pinned (OpenSpec.ofChange trajectoryLegsWrong)

/-- 'overflightlaw23.SightTrue': WHATEVER THE INPUT: true; the input reads as it did. -/
def sightTrueSpec : ChangeSpec := { name := "sightTrue", fn := fun _ => fun
  | [d1, d2, d3, d4, d5, d6, d7] => { results := [.lit (.bool true)], args := [d1, d2, d3, d4, d5, d6, d7] }
  | _ => none }
def sightTrueRow : OpenClaim := { program := "ytheofohbhklekaagreat", sum := "d2fbf9a607dfac4c4c10320475000a73b337931f01c15c041b0fb055251421ff", func := "overflight/overflightlaw23.SightTrue", spec := "sightTrue", inPlace := ["internal/bytealg.IndexByteString"], unfollowed := true, recurses := true, apart := false }
def SightTrueSaid : Prop := sightTrueRow.holds Tryz.pinned (OpenSpec.ofChange sightTrueSpec)

/-- ITS FALSE NEIGHBOUR: 'it returns false'. Refute it at one input. -/
def sightTrueWrong : ChangeSpec := { name := "sightTrue", fn := fun _ => fun
  | [d1, d2, d3, d4, d5, d6, d7] => { results := [.lit (.bool false)], args := [d1, d2, d3, d4, d5, d6, d7] }
  | _ => none }
def SightTrueWrongFalsely : Prop := sightTrueRow.holds Tryz.pinned (OpenSpec.ofChange sightTrueWrong)

/- THE SECOND FORM. 'bulk': how many values and letters a reading holds, each counted each time it is reached (what is shared counts as often as it is met; a slice's spare places count too). A statement '..UptoSaid' is the law's where the arguments, and the package variables that the reading takes, are together of bulk at most 1048576: NARROWER than '..Said'. Prove '..Said' where nothing that the law and all that it calls make is longer than what came in: it says more and counts as full. Else prove '..UptoSaid'. A law counts once. -/
mutual
def uptoBulk {H : Type} : DataW H → Nat
  | .lit (.string bytes) => bytes.length + 1
  | .lit _ => 1
  | .nil => 1
  | .ptr d => uptoBulk d + 1
  | .slice elems spare => uptoBulkAll elems + uptoBulkAll spare + 1
  | .agg parts => uptoBulkAll parts + 1
  | .iface _ d => uptoBulk d + 1
  | .map entries => uptoBulkEntries entries + 1
  | .held _ => 1
def uptoBulkAll {H : Type} : List (DataW H) → Nat
  | [] => 0
  | d :: r => uptoBulk d + uptoBulkAll r
def uptoBulkEntries {H : Type} : List (Lit × DataW H) → Nat
  | [] => 0
  | x :: r => uptoBulkEntry x + uptoBulkEntries r
def uptoBulkEntry {H : Type} : Lit × DataW H → Nat
  | (.string bytes, d) => bytes.length + uptoBulk d + 1
  | (_, d) => uptoBulk d + 1
 end
def uptoSmall : (H : Type) → List (DataW H) → Bool := fun _ ds => decide (uptoBulkAll ds ≤ 1048576)
def OpenSpec.upto (s : _root_.Go.ChangeSpec) : _root_.Go.OpenSpec := { _root_.Go.OpenSpec.ofChange s with cond := some uptoSmall }

/-- 'overflightlaw16.TrajectorySpec', WHERE WHAT IT READS IS OF BULK AT MOST 1048576: true; the input reads as it did. -/
def trajectorySpecUptoRow : OpenClaim := { program := "ytheofohbhklekaagreat", sum := "d2fbf9a607dfac4c4c10320475000a73b337931f01c15c041b0fb055251421ff", func := "overflight/overflightlaw16.TrajectorySpec", spec := "trajectorySpec", inPlace := ["internal/bytealg.IndexByteString"], unfollowed := true, recurses := true, apart := false, narrowed := true }
def TrajectorySpecUptoSaid : Prop := trajectorySpecUptoRow.holds Tryz.pinned (OpenSpec.upto trajectorySpecSpec)

/-- 'overflightlaw16.TrajectoryAllSpec', WHERE WHAT IT READS IS OF BULK AT MOST 1048576: true; the input reads as it did. -/
def trajectoryAllSpecUptoRow : OpenClaim := { program := "ytheofohbhklekaagreat", sum := "d2fbf9a607dfac4c4c10320475000a73b337931f01c15c041b0fb055251421ff", func := "overflight/overflightlaw16.TrajectoryAllSpec", spec := "trajectoryAllSpec", inPlace := ["internal/bytealg.IndexByteString"], unfollowed := true, recurses := true, apart := false, narrowed := true }
def TrajectoryAllSpecUptoSaid : Prop := trajectoryAllSpecUptoRow.holds Tryz.pinned (OpenSpec.upto trajectoryAllSpecSpec)

/-- 'overflightlaw16.TrajectoryExact', WHERE WHAT IT READS IS OF BULK AT MOST 1048576: true; the input reads as it did. -/
def trajectoryExactUptoRow : OpenClaim := { program := "ytheofohbhklekaagreat", sum := "d2fbf9a607dfac4c4c10320475000a73b337931f01c15c041b0fb055251421ff", func := "overflight/overflightlaw16.TrajectoryExact", spec := "trajectoryExact", inPlace := ["internal/bytealg.IndexByteString"], unfollowed := true, recurses := true, apart := false, narrowed := true }
def TrajectoryExactUptoSaid : Prop := trajectoryExactUptoRow.holds Tryz.pinned (OpenSpec.upto trajectoryExactSpec)

/-- 'overflightlaw16.TrajectoryReached', WHERE WHAT IT READS IS OF BULK AT MOST 1048576: true; the input reads as it did. -/
def trajectoryReachedUptoRow : OpenClaim := { program := "ytheofohbhklekaagreat", sum := "d2fbf9a607dfac4c4c10320475000a73b337931f01c15c041b0fb055251421ff", func := "overflight/overflightlaw16.TrajectoryReached", spec := "trajectoryReached", inPlace := ["internal/bytealg.IndexByteString"], unfollowed := true, recurses := true, apart := false, narrowed := true }
def TrajectoryReachedUptoSaid : Prop := trajectoryReachedUptoRow.holds Tryz.pinned (OpenSpec.upto trajectoryReachedSpec)

/-- 'overflightlaw16.TrajectoryMoves', WHERE WHAT IT READS IS OF BULK AT MOST 1048576: true; the input reads as it did. -/
def trajectoryMovesUptoRow : OpenClaim := { program := "ytheofohbhklekaagreat", sum := "d2fbf9a607dfac4c4c10320475000a73b337931f01c15c041b0fb055251421ff", func := "overflight/overflightlaw16.TrajectoryMoves", spec := "trajectoryMoves", inPlace := ["internal/bytealg.IndexByteString"], unfollowed := true, recurses := true, apart := false, narrowed := true }
def TrajectoryMovesUptoSaid : Prop := trajectoryMovesUptoRow.holds Tryz.pinned (OpenSpec.upto trajectoryMovesSpec)

/-- 'overflightlaw16.TrajectoryWindow', WHERE WHAT IT READS IS OF BULK AT MOST 1048576: true; the input reads as it did. -/
def trajectoryWindowUptoRow : OpenClaim := { program := "ytheofohbhklekaagreat", sum := "d2fbf9a607dfac4c4c10320475000a73b337931f01c15c041b0fb055251421ff", func := "overflight/overflightlaw16.TrajectoryWindow", spec := "trajectoryWindow", inPlace := ["internal/bytealg.IndexByteString"], unfollowed := true, recurses := true, apart := false, narrowed := true }
def TrajectoryWindowUptoSaid : Prop := trajectoryWindowUptoRow.holds Tryz.pinned (OpenSpec.upto trajectoryWindowSpec)

/-- 'overflightlaw16.TrajectoryLegs', WHERE WHAT IT READS IS OF BULK AT MOST 1048576: true; the input reads as it did. -/
def trajectoryLegsUptoRow : OpenClaim := { program := "ytheofohbhklekaagreat", sum := "d2fbf9a607dfac4c4c10320475000a73b337931f01c15c041b0fb055251421ff", func := "overflight/overflightlaw16.TrajectoryLegs", spec := "trajectoryLegs", inPlace := ["internal/bytealg.IndexByteString"], unfollowed := true, recurses := true, apart := false, narrowed := true }
def TrajectoryLegsUptoSaid : Prop := trajectoryLegsUptoRow.holds Tryz.pinned (OpenSpec.upto trajectoryLegsSpec)

/-- 'overflightlaw23.SightTrue', WHERE WHAT IT READS IS OF BULK AT MOST 1048576: true; the input reads as it did. -/
def sightTrueUptoRow : OpenClaim := { program := "ytheofohbhklekaagreat", sum := "d2fbf9a607dfac4c4c10320475000a73b337931f01c15c041b0fb055251421ff", func := "overflight/overflightlaw23.SightTrue", spec := "sightTrue", inPlace := ["internal/bytealg.IndexByteString"], unfollowed := true, recurses := true, apart := false, narrowed := true }
def SightTrueUptoSaid : Prop := sightTrueUptoRow.holds Tryz.pinned (OpenSpec.upto sightTrueSpec)

end Rows
end Go.Proofs.YtheofohbhklekaaGreat
