/-
  No cell of these rows narrows 'for every input' (looked for: loops, veiled, ifaces, maps, wideKeys, modest, calm, conditions, laid).
  DERIVED. THE GIVEN ROWS OF THIS SEAT. 6 by the template 'for every input the law returns true; each argument reads behind the call as it read before'; 0 by the template 'total and deterministic' (their statements: YtimomgiieilmkaaGreatTotals.lean).
  GIVEN WITH THE SEED: the statements are not yours to turn. If you find one false, say at which input.
  Laid BY PROGRAM, IN A SANDBOX (cutbox-rows.mjs): the forced cells as the released guide's own fill.sh prints them over the translation 2895dd9b65025406… (all of the seat's roots in one cut). By AI agents, Wed Nov 11 2026. No macro, syntax, notation, axiom, sorry.
-/
import Derived.Test.YtimomgiieilmkaaGreatChecked
import GoSem.Claim
import GoSem.ClaimJoined
import GoSem.ClaimMapViews
import Derived.JoinedTies
import Derived.KernelRfl
namespace Go.Proofs.YtimomgiieilmkaaGreat
/- THE CELL 'sum', in the pinned program and in every row, IS THE sha256 OF THE DUMP (.gsa) THAT YtimomgiieilmkaaGreatProg.lean LOADS. Nothing in Lean hashes anything: it is a label: what it is worth is what the hold of that sum in a sandbox is worth. -/
noncomputable def Tryz.pinned : Pinned := { name := "ytimomgiieilmkaagreat", sum := "2895dd9b650254069aea2e5eb6c333b91914d7270f122a81cee1dd309925edaa", checked := Tryz.checked }
namespace Rows
def none {H : Type} : Left H := { results := [], args := [] }

/-- 'overflightlaw25.TrackerHearSpec': WHATEVER THE INPUT: true; the input reads as it did. -/
def trackerHearSpecSpec : ChangeSpec := { name := "trackerHearSpec", fn := fun _ => fun
  | [d1, d2, d3, d4, d5] => { results := [.lit (.bool true)], args := [d1, d2, d3, d4, d5] }
  | _ => none }
def trackerHearSpecRow : OpenClaim := { program := "ytimomgiieilmkaagreat", sum := "2895dd9b650254069aea2e5eb6c333b91914d7270f122a81cee1dd309925edaa", func := "overflight/overflightlaw25.TrackerHearSpec", spec := "trackerHearSpec", inPlace := ["internal/bytealg.IndexByteString", "slices.overlaps[overflight/api.Report]"], unfollowed := true, recurses := true, plainKeys := false, apart := false }
def TrackerHearSpecSaid : Prop := trackerHearSpecRow.holds Tryz.pinned (OpenSpec.ofChange trackerHearSpecSpec)

/-- ITS FALSE NEIGHBOUR: 'it returns false'. Refute it at one input. -/
def trackerHearSpecWrong : ChangeSpec := { name := "trackerHearSpec", fn := fun _ => fun
  | [d1, d2, d3, d4, d5] => { results := [.lit (.bool false)], args := [d1, d2, d3, d4, d5] }
  | _ => none }
def TrackerHearSpecWrongFalsely : Prop := trackerHearSpecRow.holds Tryz.pinned (OpenSpec.ofChange trackerHearSpecWrong)

/-- 'overflightlaw25.TrackerTrue': WHATEVER THE INPUT: true; the input reads as it did. -/
def trackerTrueSpec : ChangeSpec := { name := "trackerTrue", fn := fun _ => fun
  | [d1, d2, d3, d4, d5, d6] => { results := [.lit (.bool true)], args := [d1, d2, d3, d4, d5, d6] }
  | _ => none }
def trackerTrueRow : OpenClaim := { program := "ytimomgiieilmkaagreat", sum := "2895dd9b650254069aea2e5eb6c333b91914d7270f122a81cee1dd309925edaa", func := "overflight/overflightlaw25.TrackerTrue", spec := "trackerTrue", inPlace := ["internal/bytealg.IndexByteString", "slices.overlaps[overflight/api.Report]"], unfollowed := true, recurses := true, plainKeys := false, apart := false }
def TrackerTrueSaid : Prop := trackerTrueRow.holds Tryz.pinned (OpenSpec.ofChange trackerTrueSpec)

/-- ITS FALSE NEIGHBOUR: 'it returns false'. Refute it at one input. -/
def trackerTrueWrong : ChangeSpec := { name := "trackerTrue", fn := fun _ => fun
  | [d1, d2, d3, d4, d5, d6] => { results := [.lit (.bool false)], args := [d1, d2, d3, d4, d5, d6] }
  | _ => none }
def TrackerTrueWrongFalsely : Prop := trackerTrueRow.holds Tryz.pinned (OpenSpec.ofChange trackerTrueWrong)

/-- 'overflightlaw25.TrackerOrder': WHATEVER THE INPUT: true; the input reads as it did. -/
def trackerOrderSpec : ChangeSpec := { name := "trackerOrder", fn := fun _ => fun
  | [d1, d2, d3, d4, d5] => { results := [.lit (.bool true)], args := [d1, d2, d3, d4, d5] }
  | _ => none }
def trackerOrderRow : OpenClaim := { program := "ytimomgiieilmkaagreat", sum := "2895dd9b650254069aea2e5eb6c333b91914d7270f122a81cee1dd309925edaa", func := "overflight/overflightlaw25.TrackerOrder", spec := "trackerOrder", inPlace := ["internal/bytealg.IndexByteString", "slices.overlaps[overflight/api.Report]"], unfollowed := true, recurses := true, plainKeys := false, apart := false }
def TrackerOrderSaid : Prop := trackerOrderRow.holds Tryz.pinned (OpenSpec.ofChange trackerOrderSpec)

/-- ITS FALSE NEIGHBOUR: 'it returns false'. Refute it at one input. -/
def trackerOrderWrong : ChangeSpec := { name := "trackerOrder", fn := fun _ => fun
  | [d1, d2, d3, d4, d5] => { results := [.lit (.bool false)], args := [d1, d2, d3, d4, d5] }
  | _ => none }
def TrackerOrderWrongFalsely : Prop := trackerOrderRow.holds Tryz.pinned (OpenSpec.ofChange trackerOrderWrong)

/-- 'overflightlaw25.TrackerNarrow': WHATEVER THE INPUT: true; the input reads as it did. -/
def trackerNarrowSpec : ChangeSpec := { name := "trackerNarrow", fn := fun _ => fun
  | [d1, d2, d3, d4] => { results := [.lit (.bool true)], args := [d1, d2, d3, d4] }
  | _ => none }
def trackerNarrowRow : OpenClaim := { program := "ytimomgiieilmkaagreat", sum := "2895dd9b650254069aea2e5eb6c333b91914d7270f122a81cee1dd309925edaa", func := "overflight/overflightlaw25.TrackerNarrow", spec := "trackerNarrow", inPlace := ["internal/bytealg.IndexByteString", "slices.overlaps[overflight/api.Report]"], unfollowed := true, recurses := true, plainKeys := false, apart := false }
def TrackerNarrowSaid : Prop := trackerNarrowRow.holds Tryz.pinned (OpenSpec.ofChange trackerNarrowSpec)

/-- ITS FALSE NEIGHBOUR: 'it returns false'. Refute it at one input. -/
def trackerNarrowWrong : ChangeSpec := { name := "trackerNarrow", fn := fun _ => fun
  | [d1, d2, d3, d4] => { results := [.lit (.bool false)], args := [d1, d2, d3, d4] }
  | _ => none }
def TrackerNarrowWrongFalsely : Prop := trackerNarrowRow.holds Tryz.pinned (OpenSpec.ofChange trackerNarrowWrong)

/-- 'overflightlaw25.TrackerAlone': WHATEVER THE INPUT: true; the input reads as it did. -/
def trackerAloneSpec : ChangeSpec := { name := "trackerAlone", fn := fun _ => fun
  | [d1, d2, d3, d4, d5, d6] => { results := [.lit (.bool true)], args := [d1, d2, d3, d4, d5, d6] }
  | _ => none }
def trackerAloneRow : OpenClaim := { program := "ytimomgiieilmkaagreat", sum := "2895dd9b650254069aea2e5eb6c333b91914d7270f122a81cee1dd309925edaa", func := "overflight/overflightlaw25.TrackerAlone", spec := "trackerAlone", inPlace := ["internal/bytealg.IndexByteString", "slices.overlaps[overflight/api.Report]"], unfollowed := true, recurses := true, plainKeys := false, apart := false }
def TrackerAloneSaid : Prop := trackerAloneRow.holds Tryz.pinned (OpenSpec.ofChange trackerAloneSpec)

/-- ITS FALSE NEIGHBOUR: 'it returns false'. Refute it at one input. -/
def trackerAloneWrong : ChangeSpec := { name := "trackerAlone", fn := fun _ => fun
  | [d1, d2, d3, d4, d5, d6] => { results := [.lit (.bool false)], args := [d1, d2, d3, d4, d5, d6] }
  | _ => none }
def TrackerAloneWrongFalsely : Prop := trackerAloneRow.holds Tryz.pinned (OpenSpec.ofChange trackerAloneWrong)

/-- 'overflightlaw25.TrackerWhere': WHATEVER THE INPUT: true; the input reads as it did. -/
def trackerWhereSpec : ChangeSpec := { name := "trackerWhere", fn := fun _ => fun
  | [d1, d2, d3, d4] => { results := [.lit (.bool true)], args := [d1, d2, d3, d4] }
  | _ => none }
def trackerWhereRow : OpenClaim := { program := "ytimomgiieilmkaagreat", sum := "2895dd9b650254069aea2e5eb6c333b91914d7270f122a81cee1dd309925edaa", func := "overflight/overflightlaw25.TrackerWhere", spec := "trackerWhere", inPlace := ["internal/bytealg.IndexByteString", "slices.overlaps[overflight/api.Report]"], unfollowed := true, recurses := true, plainKeys := false, apart := false }
def TrackerWhereSaid : Prop := trackerWhereRow.holds Tryz.pinned (OpenSpec.ofChange trackerWhereSpec)

/-- ITS FALSE NEIGHBOUR: 'it returns false'. Refute it at one input. -/
def trackerWhereWrong : ChangeSpec := { name := "trackerWhere", fn := fun _ => fun
  | [d1, d2, d3, d4] => { results := [.lit (.bool false)], args := [d1, d2, d3, d4] }
  | _ => none }
def TrackerWhereWrongFalsely : Prop := trackerWhereRow.holds Tryz.pinned (OpenSpec.ofChange trackerWhereWrong)

/- THE SECOND FORM. 'bulk': how many values and letters a reading holds, each counted each time it is reached (what is shared counts as often as it is met; a slice's spare places count too). A statement '..UptoSaid' is the law's where the arguments, and the package variables that the reading takes, are together of bulk at most 1048576: NARROWER than '..Said'. Prove '..Said' where nothing that the law and all that it calls make is longer than what came in: it says more and counts as full. Else prove '..UptoSaid'. A law counts once. -/
mutual
def uptoBulk {H : Type} : DataW H → Nat
  | .lit (.string bytes) => bytes.length + 1
  | .lit _ => 1
  | .nil => 1
  | .ptr d => uptoBulk d + 1
  | .slice elems spare => uptoBulkAll elems + uptoBulkAll spare + 1
  | .agg parts => uptoBulkAll parts + 1
  | .iface _ d => uptoBulk d + 1
  | .map entries => uptoBulkEntries entries + 1
  | .held _ => 1
def uptoBulkAll {H : Type} : List (DataW H) → Nat
  | [] => 0
  | d :: r => uptoBulk d + uptoBulkAll r
def uptoBulkEntries {H : Type} : List (Lit × DataW H) → Nat
  | [] => 0
  | x :: r => uptoBulkEntry x + uptoBulkEntries r
def uptoBulkEntry {H : Type} : Lit × DataW H → Nat
  | (.string bytes, d) => bytes.length + uptoBulk d + 1
  | (_, d) => uptoBulk d + 1
 end
def uptoSmall : (H : Type) → List (DataW H) → Bool := fun _ ds => decide (uptoBulkAll ds ≤ 1048576)
def OpenSpec.upto (s : _root_.Go.ChangeSpec) : _root_.Go.OpenSpec := { _root_.Go.OpenSpec.ofChange s with cond := some uptoSmall }

/-- 'overflightlaw25.TrackerHearSpec', WHERE WHAT IT READS IS OF BULK AT MOST 1048576: true; the input reads as it did. -/
def trackerHearSpecUptoRow : OpenClaim := { program := "ytimomgiieilmkaagreat", sum := "2895dd9b650254069aea2e5eb6c333b91914d7270f122a81cee1dd309925edaa", func := "overflight/overflightlaw25.TrackerHearSpec", spec := "trackerHearSpec", inPlace := ["internal/bytealg.IndexByteString", "slices.overlaps[overflight/api.Report]"], unfollowed := true, recurses := true, plainKeys := false, apart := false, narrowed := true }
def TrackerHearSpecUptoSaid : Prop := trackerHearSpecUptoRow.holds Tryz.pinned (OpenSpec.upto trackerHearSpecSpec)

/-- 'overflightlaw25.TrackerTrue', WHERE WHAT IT READS IS OF BULK AT MOST 1048576: true; the input reads as it did. -/
def trackerTrueUptoRow : OpenClaim := { program := "ytimomgiieilmkaagreat", sum := "2895dd9b650254069aea2e5eb6c333b91914d7270f122a81cee1dd309925edaa", func := "overflight/overflightlaw25.TrackerTrue", spec := "trackerTrue", inPlace := ["internal/bytealg.IndexByteString", "slices.overlaps[overflight/api.Report]"], unfollowed := true, recurses := true, plainKeys := false, apart := false, narrowed := true }
def TrackerTrueUptoSaid : Prop := trackerTrueUptoRow.holds Tryz.pinned (OpenSpec.upto trackerTrueSpec)

/-- 'overflightlaw25.TrackerOrder', WHERE WHAT IT READS IS OF BULK AT MOST 1048576: true; the input reads as it did. -/
def trackerOrderUptoRow : OpenClaim := { program := "ytimomgiieilmkaagreat", sum := "2895dd9b650254069aea2e5eb6c333b91914d7270f122a81cee1dd309925edaa", func := "overflight/overflightlaw25.TrackerOrder", spec := "trackerOrder", inPlace := ["internal/bytealg.IndexByteString", "slices.overlaps[overflight/api.Report]"], unfollowed := true, recurses := true, plainKeys := false, apart := false, narrowed := true }
def TrackerOrderUptoSaid : Prop := trackerOrderUptoRow.holds Tryz.pinned (OpenSpec.upto trackerOrderSpec)

/-- 'overflightlaw25.TrackerNarrow', WHERE WHAT IT READS IS OF BULK AT MOST 1048576: true; the input reads as it did. -/
def trackerNarrowUptoRow : OpenClaim := { program := "ytimomgiieilmkaagreat", sum := "2895dd9b650254069aea2e5eb6c333b91914d7270f122a81cee1dd309925edaa", func := "overflight/overflightlaw25.TrackerNarrow", spec := "trackerNarrow", inPlace := ["internal/bytealg.IndexByteString", "slices.overlaps[overflight/api.Report]"], unfollowed := true, recurses := true, plainKeys := false, apart := false, narrowed := true }
def TrackerNarrowUptoSaid : Prop := trackerNarrowUptoRow.holds Tryz.pinned (OpenSpec.upto trackerNarrowSpec)

/-- 'overflightlaw25.TrackerAlone', WHERE WHAT IT READS IS OF BULK AT MOST 1048576: true; the input reads as it did. -/
def trackerAloneUptoRow : OpenClaim := { program := "ytimomgiieilmkaagreat", sum := "2895dd9b650254069aea2e5eb6c333b91914d7270f122a81cee1dd309925edaa", func := "overflight/overflightlaw25.TrackerAlone", spec := "trackerAlone", inPlace := ["internal/bytealg.IndexByteString", "slices.overlaps[overflight/api.Report]"], unfollowed := true, recurses := true, plainKeys := false, apart := false, narrowed := true }
def TrackerAloneUptoSaid : Prop := trackerAloneUptoRow.holds Tryz.pinned (OpenSpec.upto trackerAloneSpec)

/-- 'overflightlaw25.TrackerWhere', WHERE WHAT IT READS IS OF BULK AT MOST 1048576: true; the input reads as it did. -/
def trackerWhereUptoRow : OpenClaim := { program := "ytimomgiieilmkaagreat", sum := "2895dd9b650254069aea2e5eb6c333b91914d7270f122a81cee1dd309925edaa", func := "overflight/overflightlaw25.TrackerWhere", spec := "trackerWhere", inPlace := ["internal/bytealg.IndexByteString", "slices.overlaps[overflight/api.Report]"], unfollowed := true, recurses := true, plainKeys := false, apart := false, narrowed := true }
def TrackerWhereUptoSaid : Prop := trackerWhereUptoRow.holds Tryz.pinned (OpenSpec.upto trackerWhereSpec)

end Rows
end Go.Proofs.YtimomgiieilmkaaGreat
