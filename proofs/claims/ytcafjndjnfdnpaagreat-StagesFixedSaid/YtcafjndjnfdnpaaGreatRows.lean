/-
  No cell of these rows narrows 'for every input' (looked for: loops, veiled, ifaces, maps, wideKeys, modest, calm, conditions, laid).
  DERIVED. THE GIVEN ROWS OF THIS SEAT. 8 by the template 'for every input the law returns true; each argument reads behind the call as it read before'; 0 by the template 'total and deterministic' (their statements: YtcafjndjnfdnpaaGreatTotals.lean).
  GIVEN WITH THE SEED: the statements are not yours to turn. If you find one false, say at which input.
  Laid BY PROGRAM, IN A SANDBOX (cutbox-rows.mjs): the forced cells as the released guide's own fill.sh prints them over the translation f14920722d49647b… (all of the seat's roots in one cut). By AI agents, Wed Nov 11 2026. No macro, syntax, notation, axiom, sorry.
-/
import Derived.Test.YtcafjndjnfdnpaaGreatChecked
import GoSem.Claim
import GoSem.ClaimJoined
import GoSem.ClaimMapViews
import Derived.JoinedTies
import Derived.KernelRfl
namespace Go.Proofs.YtcafjndjnfdnpaaGreat
/- THE CELL 'sum', in the pinned program and in every row, IS THE sha256 OF THE DUMP (.gsa) THAT YtcafjndjnfdnpaaGreatProg.lean LOADS. Nothing in Lean hashes anything: it is a label: what it is worth is what the hold of that sum in a sandbox is worth. -/
noncomputable def Tryz.pinned : Pinned := { name := "ytcafjndjnfdnpaagreat", sum := "f14920722d49647b516f87bff7fed84fd4ac7aab9d4bdf22be5802596bd2dbcf", checked := Tryz.checked }
namespace Rows
def none {H : Type} : Left H := { results := [], args := [] }

/-- 'overflightlaw23.SightTrue': WHATEVER THE INPUT: true; the input reads as it did. -/
def sightTrueSpec : ChangeSpec := { name := "sightTrue", fn := fun _ => fun
  | [d1, d2, d3, d4, d5, d6, d7] => { results := [.lit (.bool true)], args := [d1, d2, d3, d4, d5, d6, d7] }
  | _ => none }
def sightTrueRow : OpenClaim := { program := "ytcafjndjnfdnpaagreat", sum := "f14920722d49647b516f87bff7fed84fd4ac7aab9d4bdf22be5802596bd2dbcf", func := "overflight/overflightlaw23.SightTrue", spec := "sightTrue", inPlace := ["internal/bytealg.IndexByteString"], unfollowed := true, recurses := true, plainKeys := false, apart := false }
def SightTrueSaid : Prop := sightTrueRow.holds Tryz.pinned (OpenSpec.ofChange sightTrueSpec)

/-- ITS FALSE NEIGHBOUR: 'it returns false'. Refute it at one input. -/
def sightTrueWrong : ChangeSpec := { name := "sightTrue", fn := fun _ => fun
  | [d1, d2, d3, d4, d5, d6, d7] => { results := [.lit (.bool false)], args := [d1, d2, d3, d4, d5, d6, d7] }
  | _ => none }
def SightTrueWrongFalsely : Prop := sightTrueRow.holds Tryz.pinned (OpenSpec.ofChange sightTrueWrong)

/-- 'overflightlaw21.StagesGroupsSpec': WHATEVER THE INPUT: true; the input reads as it did. -/
def stagesGroupsSpecSpec : ChangeSpec := { name := "stagesGroupsSpec", fn := fun _ => fun
  | [d1, d2, d3, d4] => { results := [.lit (.bool true)], args := [d1, d2, d3, d4] }
  | _ => none }
def stagesGroupsSpecRow : OpenClaim := { program := "ytcafjndjnfdnpaagreat", sum := "f14920722d49647b516f87bff7fed84fd4ac7aab9d4bdf22be5802596bd2dbcf", func := "overflight/overflightlaw21.StagesGroupsSpec", spec := "stagesGroupsSpec", inPlace := ["internal/bytealg.IndexByteString"], unfollowed := true, recurses := true, plainKeys := false, apart := false }
def StagesGroupsSpecSaid : Prop := stagesGroupsSpecRow.holds Tryz.pinned (OpenSpec.ofChange stagesGroupsSpecSpec)

/-- ITS FALSE NEIGHBOUR: 'it returns false'. Refute it at one input. -/
def stagesGroupsSpecWrong : ChangeSpec := { name := "stagesGroupsSpec", fn := fun _ => fun
  | [d1, d2, d3, d4] => { results := [.lit (.bool false)], args := [d1, d2, d3, d4] }
  | _ => none }
def StagesGroupsSpecWrongFalsely : Prop := stagesGroupsSpecRow.holds Tryz.pinned (OpenSpec.ofChange stagesGroupsSpecWrong)

/-- 'overflightlaw21.StagesChoicesSpec': WHATEVER THE INPUT: true; the input reads as it did. -/
def stagesChoicesSpecSpec : ChangeSpec := { name := "stagesChoicesSpec", fn := fun _ => fun
  | [d1, d2, d3, d4, d5] => { results := [.lit (.bool true)], args := [d1, d2, d3, d4, d5] }
  | _ => none }
def stagesChoicesSpecRow : OpenClaim := { program := "ytcafjndjnfdnpaagreat", sum := "f14920722d49647b516f87bff7fed84fd4ac7aab9d4bdf22be5802596bd2dbcf", func := "overflight/overflightlaw21.StagesChoicesSpec", spec := "stagesChoicesSpec", inPlace := ["internal/bytealg.IndexByteString"], unfollowed := true, recurses := true, plainKeys := false, apart := false }
def StagesChoicesSpecSaid : Prop := stagesChoicesSpecRow.holds Tryz.pinned (OpenSpec.ofChange stagesChoicesSpecSpec)

/-- ITS FALSE NEIGHBOUR: 'it returns false'. Refute it at one input. -/
def stagesChoicesSpecWrong : ChangeSpec := { name := "stagesChoicesSpec", fn := fun _ => fun
  | [d1, d2, d3, d4, d5] => { results := [.lit (.bool false)], args := [d1, d2, d3, d4, d5] }
  | _ => none }
def StagesChoicesSpecWrongFalsely : Prop := stagesChoicesSpecRow.holds Tryz.pinned (OpenSpec.ofChange stagesChoicesSpecWrong)

/-- 'overflightlaw21.StagesRobust': WHATEVER THE INPUT: true; the input reads as it did. -/
def stagesRobustSpec : ChangeSpec := { name := "stagesRobust", fn := fun _ => fun
  | [d1, d2, d3, d4, d5, d6] => { results := [.lit (.bool true)], args := [d1, d2, d3, d4, d5, d6] }
  | _ => none }
def stagesRobustRow : OpenClaim := { program := "ytcafjndjnfdnpaagreat", sum := "f14920722d49647b516f87bff7fed84fd4ac7aab9d4bdf22be5802596bd2dbcf", func := "overflight/overflightlaw21.StagesRobust", spec := "stagesRobust", inPlace := ["internal/bytealg.IndexByteString"], unfollowed := true, recurses := true, plainKeys := false, apart := false }
def StagesRobustSaid : Prop := stagesRobustRow.holds Tryz.pinned (OpenSpec.ofChange stagesRobustSpec)

/-- ITS FALSE NEIGHBOUR: 'it returns false'. Refute it at one input. -/
def stagesRobustWrong : ChangeSpec := { name := "stagesRobust", fn := fun _ => fun
  | [d1, d2, d3, d4, d5, d6] => { results := [.lit (.bool false)], args := [d1, d2, d3, d4, d5, d6] }
  | _ => none }
def StagesRobustWrongFalsely : Prop := stagesRobustRow.holds Tryz.pinned (OpenSpec.ofChange stagesRobustWrong)

/-- 'overflightlaw21.StagesFixed': WHATEVER THE INPUT: true; the input reads as it did. -/
def stagesFixedSpec : ChangeSpec := { name := "stagesFixed", fn := fun _ => fun
  | [d1, d2, d3, d4, d5] => { results := [.lit (.bool true)], args := [d1, d2, d3, d4, d5] }
  | _ => none }
def stagesFixedRow : OpenClaim := { program := "ytcafjndjnfdnpaagreat", sum := "f14920722d49647b516f87bff7fed84fd4ac7aab9d4bdf22be5802596bd2dbcf", func := "overflight/overflightlaw21.StagesFixed", spec := "stagesFixed", inPlace := ["internal/bytealg.IndexByteString"], unfollowed := true, recurses := true, plainKeys := false, apart := false }
def StagesFixedSaid : Prop := stagesFixedRow.holds Tryz.pinned (OpenSpec.ofChange stagesFixedSpec)

/-- ITS FALSE NEIGHBOUR: 'it returns false'. Refute it at one input. -/
def stagesFixedWrong : ChangeSpec := { name := "stagesFixed", fn := fun _ => fun
  | [d1, d2, d3, d4, d5] => { results := [.lit (.bool false)], args := [d1, d2, d3, d4, d5] }
  | _ => none }
def StagesFixedWrongFalsely : Prop := stagesFixedRow.holds Tryz.pinned (OpenSpec.ofChange stagesFixedWrong)

/-- 'overflightlaw21.StagesCells': WHATEVER THE INPUT: true; the input reads as it did. -/
def stagesCellsSpec : ChangeSpec := { name := "stagesCells", fn := fun _ => fun
  | [d] => { results := [.lit (.bool true)], args := [d] }
  | _ => none }
def stagesCellsRow : OpenClaim := { program := "ytcafjndjnfdnpaagreat", sum := "f14920722d49647b516f87bff7fed84fd4ac7aab9d4bdf22be5802596bd2dbcf", func := "overflight/overflightlaw21.StagesCells", spec := "stagesCells", inPlace := ["internal/bytealg.IndexByteString"], unfollowed := true, recurses := true, plainKeys := false, apart := false }
def StagesCellsSaid : Prop := stagesCellsRow.holds Tryz.pinned (OpenSpec.ofChange stagesCellsSpec)

/-- ITS FALSE NEIGHBOUR: 'it returns false'. Refute it at one input. -/
def stagesCellsWrong : ChangeSpec := { name := "stagesCells", fn := fun _ => fun
  | [d] => { results := [.lit (.bool false)], args := [d] }
  | _ => none }
def StagesCellsWrongFalsely : Prop := stagesCellsRow.holds Tryz.pinned (OpenSpec.ofChange stagesCellsWrong)

/-- 'overflightlaw21.StagesLater': WHATEVER THE INPUT: true; the input reads as it did. -/
def stagesLaterSpec : ChangeSpec := { name := "stagesLater", fn := fun _ => fun
  | [d1, d2, d3, d4, d5, d6] => { results := [.lit (.bool true)], args := [d1, d2, d3, d4, d5, d6] }
  | _ => none }
def stagesLaterRow : OpenClaim := { program := "ytcafjndjnfdnpaagreat", sum := "f14920722d49647b516f87bff7fed84fd4ac7aab9d4bdf22be5802596bd2dbcf", func := "overflight/overflightlaw21.StagesLater", spec := "stagesLater", inPlace := ["internal/bytealg.IndexByteString"], unfollowed := true, recurses := true, plainKeys := false, apart := false }
def StagesLaterSaid : Prop := stagesLaterRow.holds Tryz.pinned (OpenSpec.ofChange stagesLaterSpec)

/-- ITS FALSE NEIGHBOUR: 'it returns false'. Refute it at one input. -/
def stagesLaterWrong : ChangeSpec := { name := "stagesLater", fn := fun _ => fun
  | [d1, d2, d3, d4, d5, d6] => { results := [.lit (.bool false)], args := [d1, d2, d3, d4, d5, d6] }
  | _ => none }
def StagesLaterWrongFalsely : Prop := stagesLaterRow.holds Tryz.pinned (OpenSpec.ofChange stagesLaterWrong)

/-- 'overflightlaw21.StagesApart': WHATEVER THE INPUT: true; the input reads as it did. -/
def stagesApartSpec : ChangeSpec := { name := "stagesApart", fn := fun _ => fun
  | [d1, d2, d3, d4, d5, d6, d7, d8, d9] => { results := [.lit (.bool true)], args := [d1, d2, d3, d4, d5, d6, d7, d8, d9] }
  | _ => none }
def stagesApartRow : OpenClaim := { program := "ytcafjndjnfdnpaagreat", sum := "f14920722d49647b516f87bff7fed84fd4ac7aab9d4bdf22be5802596bd2dbcf", func := "overflight/overflightlaw21.StagesApart", spec := "stagesApart", inPlace := ["internal/bytealg.IndexByteString"], unfollowed := true, recurses := true, plainKeys := false, apart := false }
def StagesApartSaid : Prop := stagesApartRow.holds Tryz.pinned (OpenSpec.ofChange stagesApartSpec)

/-- ITS FALSE NEIGHBOUR: 'it returns false'. Refute it at one input. -/
def stagesApartWrong : ChangeSpec := { name := "stagesApart", fn := fun _ => fun
  | [d1, d2, d3, d4, d5, d6, d7, d8, d9] => { results := [.lit (.bool false)], args := [d1, d2, d3, d4, d5, d6, d7, d8, d9] }
  | _ => none }
def StagesApartWrongFalsely : Prop := stagesApartRow.holds Tryz.pinned (OpenSpec.ofChange stagesApartWrong)

/- THE SECOND FORM. 'bulk': how many values and letters a reading holds, each counted each time it is reached (what is shared counts as often as it is met; a slice's spare places count too). A statement '..UptoSaid' is the law's where the arguments, and the package variables that the reading takes, are together of bulk at most 1048576: NARROWER than '..Said'. Prove '..Said' where nothing that the law and all that it calls make is longer than what came in: it says more and counts as full. Else prove '..UptoSaid'. A law counts once. -/
mutual
def uptoBulk {H : Type} : DataW H → Nat
  | .lit (.string bytes) => bytes.length + 1
  | .lit _ => 1
  | .nil => 1
  | .ptr d => uptoBulk d + 1
  | .slice elems spare => uptoBulkAll elems + uptoBulkAll spare + 1
  | .agg parts => uptoBulkAll parts + 1
  | .iface _ d => uptoBulk d + 1
  | .map entries => uptoBulkEntries entries + 1
  | .held _ => 1
def uptoBulkAll {H : Type} : List (DataW H) → Nat
  | [] => 0
  | d :: r => uptoBulk d + uptoBulkAll r
def uptoBulkEntries {H : Type} : List (Lit × DataW H) → Nat
  | [] => 0
  | x :: r => uptoBulkEntry x + uptoBulkEntries r
def uptoBulkEntry {H : Type} : Lit × DataW H → Nat
  | (.string bytes, d) => bytes.length + uptoBulk d + 1
  | (_, d) => uptoBulk d + 1
 end
def uptoSmall : (H : Type) → List (DataW H) → Bool := fun _ ds => decide (uptoBulkAll ds ≤ 1048576)
def OpenSpec.upto (s : _root_.Go.ChangeSpec) : _root_.Go.OpenSpec := { _root_.Go.OpenSpec.ofChange s with cond := some uptoSmall }

/-- 'overflightlaw23.SightTrue', WHERE WHAT IT READS IS OF BULK AT MOST 1048576: true; the input reads as it did. -/
def sightTrueUptoRow : OpenClaim := { program := "ytcafjndjnfdnpaagreat", sum := "f14920722d49647b516f87bff7fed84fd4ac7aab9d4bdf22be5802596bd2dbcf", func := "overflight/overflightlaw23.SightTrue", spec := "sightTrue", inPlace := ["internal/bytealg.IndexByteString"], unfollowed := true, recurses := true, plainKeys := false, apart := false, narrowed := true }
def SightTrueUptoSaid : Prop := sightTrueUptoRow.holds Tryz.pinned (OpenSpec.upto sightTrueSpec)

/-- 'overflightlaw21.StagesGroupsSpec', WHERE WHAT IT READS IS OF BULK AT MOST 1048576: true; the input reads as it did. -/
def stagesGroupsSpecUptoRow : OpenClaim := { program := "ytcafjndjnfdnpaagreat", sum := "f14920722d49647b516f87bff7fed84fd4ac7aab9d4bdf22be5802596bd2dbcf", func := "overflight/overflightlaw21.StagesGroupsSpec", spec := "stagesGroupsSpec", inPlace := ["internal/bytealg.IndexByteString"], unfollowed := true, recurses := true, plainKeys := false, apart := false, narrowed := true }
def StagesGroupsSpecUptoSaid : Prop := stagesGroupsSpecUptoRow.holds Tryz.pinned (OpenSpec.upto stagesGroupsSpecSpec)

/-- 'overflightlaw21.StagesChoicesSpec', WHERE WHAT IT READS IS OF BULK AT MOST 1048576: true; the input reads as it did. -/
def stagesChoicesSpecUptoRow : OpenClaim := { program := "ytcafjndjnfdnpaagreat", sum := "f14920722d49647b516f87bff7fed84fd4ac7aab9d4bdf22be5802596bd2dbcf", func := "overflight/overflightlaw21.StagesChoicesSpec", spec := "stagesChoicesSpec", inPlace := ["internal/bytealg.IndexByteString"], unfollowed := true, recurses := true, plainKeys := false, apart := false, narrowed := true }
def StagesChoicesSpecUptoSaid : Prop := stagesChoicesSpecUptoRow.holds Tryz.pinned (OpenSpec.upto stagesChoicesSpecSpec)

/-- 'overflightlaw21.StagesRobust', WHERE WHAT IT READS IS OF BULK AT MOST 1048576: true; the input reads as it did. -/
def stagesRobustUptoRow : OpenClaim := { program := "ytcafjndjnfdnpaagreat", sum := "f14920722d49647b516f87bff7fed84fd4ac7aab9d4bdf22be5802596bd2dbcf", func := "overflight/overflightlaw21.StagesRobust", spec := "stagesRobust", inPlace := ["internal/bytealg.IndexByteString"], unfollowed := true, recurses := true, plainKeys := false, apart := false, narrowed := true }
def StagesRobustUptoSaid : Prop := stagesRobustUptoRow.holds Tryz.pinned (OpenSpec.upto stagesRobustSpec)

/-- 'overflightlaw21.StagesFixed', WHERE WHAT IT READS IS OF BULK AT MOST 1048576: true; the input reads as it did. -/
def stagesFixedUptoRow : OpenClaim := { program := "ytcafjndjnfdnpaagreat", sum := "f14920722d49647b516f87bff7fed84fd4ac7aab9d4bdf22be5802596bd2dbcf", func := "overflight/overflightlaw21.StagesFixed", spec := "stagesFixed", inPlace := ["internal/bytealg.IndexByteString"], unfollowed := true, recurses := true, plainKeys := false, apart := false, narrowed := true }
def StagesFixedUptoSaid : Prop := stagesFixedUptoRow.holds Tryz.pinned (OpenSpec.upto stagesFixedSpec)

/-- 'overflightlaw21.StagesCells', WHERE WHAT IT READS IS OF BULK AT MOST 1048576: true; the input reads as it did. -/
def stagesCellsUptoRow : OpenClaim := { program := "ytcafjndjnfdnpaagreat", sum := "f14920722d49647b516f87bff7fed84fd4ac7aab9d4bdf22be5802596bd2dbcf", func := "overflight/overflightlaw21.StagesCells", spec := "stagesCells", inPlace := ["internal/bytealg.IndexByteString"], unfollowed := true, recurses := true, plainKeys := false, apart := false, narrowed := true }
def StagesCellsUptoSaid : Prop := stagesCellsUptoRow.holds Tryz.pinned (OpenSpec.upto stagesCellsSpec)

/-- 'overflightlaw21.StagesLater', WHERE WHAT IT READS IS OF BULK AT MOST 1048576: true; the input reads as it did. -/
def stagesLaterUptoRow : OpenClaim := { program := "ytcafjndjnfdnpaagreat", sum := "f14920722d49647b516f87bff7fed84fd4ac7aab9d4bdf22be5802596bd2dbcf", func := "overflight/overflightlaw21.StagesLater", spec := "stagesLater", inPlace := ["internal/bytealg.IndexByteString"], unfollowed := true, recurses := true, plainKeys := false, apart := false, narrowed := true }
def StagesLaterUptoSaid : Prop := stagesLaterUptoRow.holds Tryz.pinned (OpenSpec.upto stagesLaterSpec)

/-- 'overflightlaw21.StagesApart', WHERE WHAT IT READS IS OF BULK AT MOST 1048576: true; the input reads as it did. -/
def stagesApartUptoRow : OpenClaim := { program := "ytcafjndjnfdnpaagreat", sum := "f14920722d49647b516f87bff7fed84fd4ac7aab9d4bdf22be5802596bd2dbcf", func := "overflight/overflightlaw21.StagesApart", spec := "stagesApart", inPlace := ["internal/bytealg.IndexByteString"], unfollowed := true, recurses := true, plainKeys := false, apart := false, narrowed := true }
def StagesApartUptoSaid : Prop := stagesApartUptoRow.holds Tryz.pinned (OpenSpec.upto stagesApartSpec)

end Rows
end Go.Proofs.YtcafjndjnfdnpaaGreat
