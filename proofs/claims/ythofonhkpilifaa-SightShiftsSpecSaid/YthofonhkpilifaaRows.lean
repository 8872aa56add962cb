/-
  No cell of these rows narrows 'for every input' (looked for: loops, veiled, ifaces, maps, wideKeys, modest, calm, conditions, laid).
  DERIVED. THE GIVEN ROWS OF THIS SEAT. 5 by the template 'for every input the law returns true; each argument reads behind the call as it read before'; 0 by the template 'total and deterministic' (their statements: YthofonhkpilifaaTotals.lean).
  GIVEN WITH THE SEED: the statements are not yours to turn. If you find one false, say at which input.
  Laid BY PROGRAM, IN A SANDBOX (cutbox-rows.mjs): the forced cells as the released guide's own fill.sh prints them over the translation 1b390aba0fd6469b… (all of the seat's roots in one cut). By AI agents, Wed Nov 11 2026. No macro, syntax, notation, axiom, sorry.
-/
import Derived.Test.YthofonhkpilifaaChecked
import GoSem.Claim
import GoSem.ClaimJoined
import GoSem.ClaimMapViews
import Derived.JoinedTies
import Derived.KernelRfl
namespace Go.Proofs.Ythofonhkpilifaa
/- THE CELL 'sum', in the pinned program and in every row, IS THE sha256 OF THE DUMP (.gsa) THAT YthofonhkpilifaaProg.lean LOADS. Nothing in Lean hashes anything: it is a label: what it is worth is what the hold of that sum in a sandbox is worth. -/
noncomputable def Try.pinned : Pinned := { name := "ythofonhkpilifaa", sum := "1b390aba0fd6469b18fd19b58085e4c28fe8e921e256dc57c764d29abd8e59a9", checked := Try.checked }
namespace Rows
def none {H : Type} : Left H := { results := [], args := [] }

/-- 'overflightlaw23.SightSeesSpec': WHATEVER THE INPUT: true; the input reads as it did. -/
def sightSeesSpecSpec : ChangeSpec := { name := "sightSeesSpec", fn := fun _ => fun
  | [d1, d2, d3, d4] => { results := [.lit (.bool true)], args := [d1, d2, d3, d4] }
  | _ => none }
def sightSeesSpecRow : OpenClaim := { program := "ythofonhkpilifaa", sum := "1b390aba0fd6469b18fd19b58085e4c28fe8e921e256dc57c764d29abd8e59a9", func := "overflight/overflightlaw23.SightSeesSpec", spec := "sightSeesSpec", unfollowed := true, recurses := true, apart := false }
def SightSeesSpecSaid : Prop := sightSeesSpecRow.holds Try.pinned (OpenSpec.ofChange sightSeesSpecSpec)

/-- ITS FALSE NEIGHBOUR: 'it returns false'. Refute it at one input. -/
def sightSeesSpecWrong : ChangeSpec := { name := "sightSeesSpec", fn := fun _ => fun
  | [d1, d2, d3, d4] => { results := [.lit (.bool false)], args := [d1, d2, d3, d4] }
  | _ => none }
def SightSeesSpecWrongFalsely : Prop := sightSeesSpecRow.holds Try.pinned (OpenSpec.ofChange sightSeesSpecWrong)

/-- 'overflightlaw23.SightWrongSpec': WHATEVER THE INPUT: true; the input reads as it did. -/
def sightWrongSpecSpec : ChangeSpec := { name := "sightWrongSpec", fn := fun _ => fun
  | [d1, d2, d3, d4, d5] => { results := [.lit (.bool true)], args := [d1, d2, d3, d4, d5] }
  | _ => none }
def sightWrongSpecRow : OpenClaim := { program := "ythofonhkpilifaa", sum := "1b390aba0fd6469b18fd19b58085e4c28fe8e921e256dc57c764d29abd8e59a9", func := "overflight/overflightlaw23.SightWrongSpec", spec := "sightWrongSpec", unfollowed := true, recurses := true, apart := false }
def SightWrongSpecSaid : Prop := sightWrongSpecRow.holds Try.pinned (OpenSpec.ofChange sightWrongSpecSpec)

/-- ITS FALSE NEIGHBOUR: 'it returns false'. Refute it at one input. -/
def sightWrongSpecWrong : ChangeSpec := { name := "sightWrongSpec", fn := fun _ => fun
  | [d1, d2, d3, d4, d5] => { results := [.lit (.bool false)], args := [d1, d2, d3, d4, d5] }
  | _ => none }
def SightWrongSpecWrongFalsely : Prop := sightWrongSpecRow.holds Try.pinned (OpenSpec.ofChange sightWrongSpecWrong)

/-- 'overflightlaw23.SightShiftsSpec': WHATEVER THE INPUT: true; the input reads as it did. -/
def sightShiftsSpecSpec : ChangeSpec := { name := "sightShiftsSpec", fn := fun _ => fun
  | [d] => { results := [.lit (.bool true)], args := [d] }
  | _ => none }
def sightShiftsSpecRow : OpenClaim := { program := "ythofonhkpilifaa", sum := "1b390aba0fd6469b18fd19b58085e4c28fe8e921e256dc57c764d29abd8e59a9", func := "overflight/overflightlaw23.SightShiftsSpec", spec := "sightShiftsSpec", unfollowed := true, recurses := true, apart := false }
def SightShiftsSpecSaid : Prop := sightShiftsSpecRow.holds Try.pinned (OpenSpec.ofChange sightShiftsSpecSpec)

/-- ITS FALSE NEIGHBOUR: 'it returns false'. Refute it at one input. -/
def sightShiftsSpecWrong : ChangeSpec := { name := "sightShiftsSpec", fn := fun _ => fun
  | [d] => { results := [.lit (.bool false)], args := [d] }
  | _ => none }
def SightShiftsSpecWrongFalsely : Prop := sightShiftsSpecRow.holds Try.pinned (OpenSpec.ofChange sightShiftsSpecWrong)

/-- 'overflightlaw23.SightMore': WHATEVER THE INPUT: true; the input reads as it did. -/
def sightMoreSpec : ChangeSpec := { name := "sightMore", fn := fun _ => fun
  | [d1, d2, d3, d4, d5, d6] => { results := [.lit (.bool true)], args := [d1, d2, d3, d4, d5, d6] }
  | _ => none }
def sightMoreRow : OpenClaim := { program := "ythofonhkpilifaa", sum := "1b390aba0fd6469b18fd19b58085e4c28fe8e921e256dc57c764d29abd8e59a9", func := "overflight/overflightlaw23.SightMore", spec := "sightMore", unfollowed := true, recurses := true, apart := false }
def SightMoreSaid : Prop := sightMoreRow.holds Try.pinned (OpenSpec.ofChange sightMoreSpec)

/-- ITS FALSE NEIGHBOUR: 'it returns false'. Refute it at one input. -/
def sightMoreWrong : ChangeSpec := { name := "sightMore", fn := fun _ => fun
  | [d1, d2, d3, d4, d5, d6] => { results := [.lit (.bool false)], args := [d1, d2, d3, d4, d5, d6] }
  | _ => none }
def SightMoreWrongFalsely : Prop := sightMoreRow.holds Try.pinned (OpenSpec.ofChange sightMoreWrong)

/-- 'overflightlaw23.SightParts': WHATEVER THE INPUT: true; the input reads as it did. -/
def sightPartsSpec : ChangeSpec := { name := "sightParts", fn := fun _ => fun
  | [d1, d2, d3, d4, d5, d6] => { results := [.lit (.bool true)], args := [d1, d2, d3, d4, d5, d6] }
  | _ => none }
def sightPartsRow : OpenClaim := { program := "ythofonhkpilifaa", sum := "1b390aba0fd6469b18fd19b58085e4c28fe8e921e256dc57c764d29abd8e59a9", func := "overflight/overflightlaw23.SightParts", spec := "sightParts", unfollowed := true, recurses := true, apart := false }
def SightPartsSaid : Prop := sightPartsRow.holds Try.pinned (OpenSpec.ofChange sightPartsSpec)

/-- ITS FALSE NEIGHBOUR: 'it returns false'. Refute it at one input. -/
def sightPartsWrong : ChangeSpec := { name := "sightParts", fn := fun _ => fun
  | [d1, d2, d3, d4, d5, d6] => { results := [.lit (.bool false)], args := [d1, d2, d3, d4, d5, d6] }
  | _ => none }
def SightPartsWrongFalsely : Prop := sightPartsRow.holds Try.pinned (OpenSpec.ofChange sightPartsWrong)

/- THE SECOND FORM. 'bulk': how many values and letters a reading holds, each counted each time it is reached (what is shared counts as often as it is met; a slice's spare places count too). A statement '..UptoSaid' is the law's where the arguments, and the package variables that the reading takes, are together of bulk at most 1048576: NARROWER than '..Said'. Prove '..Said' where nothing that the law and all that it calls make is longer than what came in: it says more and counts as full. Else prove '..UptoSaid'. A law counts once. -/
mutual
def uptoBulk {H : Type} : DataW H → Nat
  | .lit (.string bytes) => bytes.length + 1
  | .lit _ => 1
  | .nil => 1
  | .ptr d => uptoBulk d + 1
  | .slice elems spare => uptoBulkAll elems + uptoBulkAll spare + 1
  | .agg parts => uptoBulkAll parts + 1
  | .iface _ d => uptoBulk d + 1
  | .map entries => uptoBulkEntries entries + 1
  | .held _ => 1
def uptoBulkAll {H : Type} : List (DataW H) → Nat
  | [] => 0
  | d :: r => uptoBulk d + uptoBulkAll r
def uptoBulkEntries {H : Type} : List (Lit × DataW H) → Nat
  | [] => 0
  | x :: r => uptoBulkEntry x + uptoBulkEntries r
def uptoBulkEntry {H : Type} : Lit × DataW H → Nat
  | (.string bytes, d) => bytes.length + uptoBulk d + 1
  | (_, d) => uptoBulk d + 1
 end
def uptoSmall : (H : Type) → List (DataW H) → Bool := fun _ ds => decide (uptoBulkAll ds ≤ 1048576)
def OpenSpec.upto (s : _root_.Go.ChangeSpec) : _root_.Go.OpenSpec := { _root_.Go.OpenSpec.ofChange s with cond := some uptoSmall }

/-- 'overflightlaw23.SightSeesSpec', WHERE WHAT IT READS IS OF BULK AT MOST 1048576: true; the input reads as it did. -/
def sightSeesSpecUptoRow : OpenClaim := { program := "ythofonhkpilifaa", sum := "1b390aba0fd6469b18fd19b58085e4c28fe8e921e256dc57c764d29abd8e59a9", func := "overflight/overflightlaw23.SightSeesSpec", spec := "sightSeesSpec", unfollowed := true, recurses := true, apart := false, narrowed := true }
def SightSeesSpecUptoSaid : Prop := sightSeesSpecUptoRow.holds Try.pinned (OpenSpec.upto sightSeesSpecSpec)

/-- 'overflightlaw23.SightWrongSpec', WHERE WHAT IT READS IS OF BULK AT MOST 1048576: true; the input reads as it did. -/
def sightWrongSpecUptoRow : OpenClaim := { program := "ythofonhkpilifaa", sum := "1b390aba0fd6469b18fd19b58085e4c28fe8e921e256dc57c764d29abd8e59a9", func := "overflight/overflightlaw23.SightWrongSpec", spec := "sightWrongSpec", unfollowed := true, recurses := true, apart := false, narrowed := true }
def SightWrongSpecUptoSaid : Prop := sightWrongSpecUptoRow.holds Try.pinned (OpenSpec.upto sightWrongSpecSpec)

/-- 'overflightlaw23.SightShiftsSpec', WHERE WHAT IT READS IS OF BULK AT MOST 1048576: true; the input reads as it did. -/
def sightShiftsSpecUptoRow : OpenClaim := { program := "ythofonhkpilifaa", sum := "1b390aba0fd6469b18fd19b58085e4c28fe8e921e256dc57c764d29abd8e59a9", func := "overflight/overflightlaw23.SightShiftsSpec", spec := "sightShiftsSpec", unfollowed := true, recurses := true, apart := false, narrowed := true }
def SightShiftsSpecUptoSaid : Prop := sightShiftsSpecUptoRow.holds Try.pinned (OpenSpec.upto sightShiftsSpecSpec)

/-- 'overflightlaw23.SightMore', WHERE WHAT IT READS IS OF BULK AT MOST 1048576: true; the input reads as it did. -/
def sightMoreUptoRow : OpenClaim := { program := "ythofonhkpilifaa", sum := "1b390aba0fd6469b18fd19b58085e4c28fe8e921e256dc57c764d29abd8e59a9", func := "overflight/overflightlaw23.SightMore", spec := "sightMore", unfollowed := true, recurses := true, apart := false, narrowed := true }
def SightMoreUptoSaid : Prop := sightMoreUptoRow.holds Try.pinned (OpenSpec.upto sightMoreSpec)

/-- 'overflightlaw23.SightParts', WHERE WHAT IT READS IS OF BULK AT MOST 1048576: true; the input reads as it did. -/
def sightPartsUptoRow : OpenClaim := { program := "ythofonhkpilifaa", sum := "1b390aba0fd6469b18fd19b58085e4c28fe8e921e256dc57c764d29abd8e59a9", func := "overflight/overflightlaw23.SightParts", spec := "sightParts", unfollowed := true, recurses := true, apart := false, narrowed := true }
def SightPartsUptoSaid : Prop := sightPartsUptoRow.holds Try.pinned (OpenSpec.upto sightPartsSpec)

end Rows
end Go.Proofs.Ythofonhkpilifaa
