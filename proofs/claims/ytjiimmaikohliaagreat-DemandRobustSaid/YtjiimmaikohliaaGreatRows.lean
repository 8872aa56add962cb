/-
  No cell of these rows narrows 'for every input' (looked for: loops, veiled, ifaces, maps, wideKeys, modest, calm, conditions, laid).
  DERIVED. THE GIVEN ROWS OF THIS SEAT. 7 by the template 'for every input the law returns true; each argument reads behind the call as it read before'; 0 by the template 'total and deterministic' (their statements: YtjiimmaikohliaaGreatTotals.lean).
  GIVEN WITH THE SEED: the statements are not yours to turn. If you find one false, say at which input.
  Laid BY PROGRAM, IN A SANDBOX (cutbox-rows.mjs): the forced cells as the released guide's own fill.sh prints them over the translation 9b9e87ab854fd1ee… (all of the seat's roots in one cut). By AI agents, Wed Nov 11 2026. No macro, syntax, notation, axiom, sorry.
-/
import Derived.Test.YtjiimmaikohliaaGreatChecked
import GoSem.Claim
import GoSem.ClaimJoined
import GoSem.ClaimMapViews
import Derived.JoinedTies
import Derived.KernelRfl
namespace Go.Proofs.YtjiimmaikohliaaGreat
/- THE CELL 'sum', in the pinned program and in every row, IS THE sha256 OF THE DUMP (.gsa) THAT YtjiimmaikohliaaGreatProg.lean LOADS. Nothing in Lean hashes anything: it is a label: what it is worth is what the hold of that sum in a sandbox is worth. -/
noncomputable def Tryz.pinned : Pinned := { name := "ytjiimmaikohliaagreat", sum := "9b9e87ab854fd1ee8990e133cbca1a660176786d417c789fe9ea7012bb8c0bba", checked := Tryz.checked }
namespace Rows
def none {H : Type} : Left H := { results := [], args := [] }

/-- 'overflightlaw20.DemandUsesSpec': WHATEVER THE INPUT: true; the input reads as it did. -/
def demandUsesSpecSpec : ChangeSpec := { name := "demandUsesSpec", fn := fun _ => fun
  | [d1, d2, d3, d4] => { results := [.lit (.bool true)], args := [d1, d2, d3, d4] }
  | _ => none }
def demandUsesSpecRow : OpenClaim := { program := "ytjiimmaikohliaagreat", sum := "9b9e87ab854fd1ee8990e133cbca1a660176786d417c789fe9ea7012bb8c0bba", func := "overflight/overflightlaw20.DemandUsesSpec", spec := "demandUsesSpec", unfollowed := true, recurses := true, plainKeys := false, apart := false }
def DemandUsesSpecSaid : Prop := demandUsesSpecRow.holds Tryz.pinned (OpenSpec.ofChange demandUsesSpecSpec)

/-- ITS FALSE NEIGHBOUR: 'it returns false'. Refute it at one input. -/
def demandUsesSpecWrong : ChangeSpec := { name := "demandUsesSpec", fn := fun _ => fun
  | [d1, d2, d3, d4] => { results := [.lit (.bool false)], args := [d1, d2, d3, d4] }
  | _ => none }
def DemandUsesSpecWrongFalsely : Prop := demandUsesSpecRow.holds Tryz.pinned (OpenSpec.ofChange demandUsesSpecWrong)

/-- 'overflightlaw20.DemandAddSpec': WHATEVER THE INPUT: true; the input reads as it did. -/
def demandAddSpecSpec : ChangeSpec := { name := "demandAddSpec", fn := fun _ => fun
  | [d1, d2, d3, d4] => { results := [.lit (.bool true)], args := [d1, d2, d3, d4] }
  | _ => none }
def demandAddSpecRow : OpenClaim := { program := "ytjiimmaikohliaagreat", sum := "9b9e87ab854fd1ee8990e133cbca1a660176786d417c789fe9ea7012bb8c0bba", func := "overflight/overflightlaw20.DemandAddSpec", spec := "demandAddSpec", unfollowed := true, recurses := true, plainKeys := false, apart := false }
def DemandAddSpecSaid : Prop := demandAddSpecRow.holds Tryz.pinned (OpenSpec.ofChange demandAddSpecSpec)

/-- ITS FALSE NEIGHBOUR: 'it returns false'. Refute it at one input. -/
def demandAddSpecWrong : ChangeSpec := { name := "demandAddSpec", fn := fun _ => fun
  | [d1, d2, d3, d4] => { results := [.lit (.bool false)], args := [d1, d2, d3, d4] }
  | _ => none }
def DemandAddSpecWrongFalsely : Prop := demandAddSpecRow.holds Tryz.pinned (OpenSpec.ofChange demandAddSpecWrong)

/-- 'overflightlaw20.DemandRobust': WHATEVER THE INPUT: true; the input reads as it did. -/
def demandRobustSpec : ChangeSpec := { name := "demandRobust", fn := fun _ => fun
  | [d1, d2, d3] => { results := [.lit (.bool true)], args := [d1, d2, d3] }
  | _ => none }
def demandRobustRow : OpenClaim := { program := "ytjiimmaikohliaagreat", sum := "9b9e87ab854fd1ee8990e133cbca1a660176786d417c789fe9ea7012bb8c0bba", func := "overflight/overflightlaw20.DemandRobust", spec := "demandRobust", unfollowed := true, recurses := true, plainKeys := false, apart := false }
def DemandRobustSaid : Prop := demandRobustRow.holds Tryz.pinned (OpenSpec.ofChange demandRobustSpec)

/-- ITS FALSE NEIGHBOUR: 'it returns false'. Refute it at one input. -/
def demandRobustWrong : ChangeSpec := { name := "demandRobust", fn := fun _ => fun
  | [d1, d2, d3] => { results := [.lit (.bool false)], args := [d1, d2, d3] }
  | _ => none }
def DemandRobustWrongFalsely : Prop := demandRobustRow.holds Tryz.pinned (OpenSpec.ofChange demandRobustWrong)

/-- 'overflightlaw20.DemandParts': WHATEVER THE INPUT: true; the input reads as it did. -/
def demandPartsSpec : ChangeSpec := { name := "demandParts", fn := fun _ => fun
  | [d1, d2, d3, d4, d5] => { results := [.lit (.bool true)], args := [d1, d2, d3, d4, d5] }
  | _ => none }
def demandPartsRow : OpenClaim := { program := "ytjiimmaikohliaagreat", sum := "9b9e87ab854fd1ee8990e133cbca1a660176786d417c789fe9ea7012bb8c0bba", func := "overflight/overflightlaw20.DemandParts", spec := "demandParts", unfollowed := true, recurses := true, plainKeys := false, apart := false }
def DemandPartsSaid : Prop := demandPartsRow.holds Tryz.pinned (OpenSpec.ofChange demandPartsSpec)

/-- ITS FALSE NEIGHBOUR: 'it returns false'. Refute it at one input. -/
def demandPartsWrong : ChangeSpec := { name := "demandParts", fn := fun _ => fun
  | [d1, d2, d3, d4, d5] => { results := [.lit (.bool false)], args := [d1, d2, d3, d4, d5] }
  | _ => none }
def DemandPartsWrongFalsely : Prop := demandPartsRow.holds Tryz.pinned (OpenSpec.ofChange demandPartsWrong)

/-- 'overflightlaw20.DemandCounts': WHATEVER THE INPUT: true; the input reads as it did. -/
def demandCountsSpec : ChangeSpec := { name := "demandCounts", fn := fun _ => fun
  | [d1, d2, d3, d4] => { results := [.lit (.bool true)], args := [d1, d2, d3, d4] }
  | _ => none }
def demandCountsRow : OpenClaim := { program := "ytjiimmaikohliaagreat", sum := "9b9e87ab854fd1ee8990e133cbca1a660176786d417c789fe9ea7012bb8c0bba", func := "overflight/overflightlaw20.DemandCounts", spec := "demandCounts", unfollowed := true, recurses := true, plainKeys := false, apart := false }
def DemandCountsSaid : Prop := demandCountsRow.holds Tryz.pinned (OpenSpec.ofChange demandCountsSpec)

/-- ITS FALSE NEIGHBOUR: 'it returns false'. Refute it at one input. -/
def demandCountsWrong : ChangeSpec := { name := "demandCounts", fn := fun _ => fun
  | [d1, d2, d3, d4] => { results := [.lit (.bool false)], args := [d1, d2, d3, d4] }
  | _ => none }
def DemandCountsWrongFalsely : Prop := demandCountsRow.holds Tryz.pinned (OpenSpec.ofChange demandCountsWrong)

/-- 'overflightlaw20.DemandSums': WHATEVER THE INPUT: true; the input reads as it did. -/
def demandSumsSpec : ChangeSpec := { name := "demandSums", fn := fun _ => fun
  | [d1, d2] => { results := [.lit (.bool true)], args := [d1, d2] }
  | _ => none }
def demandSumsRow : OpenClaim := { program := "ytjiimmaikohliaagreat", sum := "9b9e87ab854fd1ee8990e133cbca1a660176786d417c789fe9ea7012bb8c0bba", func := "overflight/overflightlaw20.DemandSums", spec := "demandSums", unfollowed := true, recurses := true, plainKeys := false, apart := false }
def DemandSumsSaid : Prop := demandSumsRow.holds Tryz.pinned (OpenSpec.ofChange demandSumsSpec)

/-- ITS FALSE NEIGHBOUR: 'it returns false'. Refute it at one input. -/
def demandSumsWrong : ChangeSpec := { name := "demandSums", fn := fun _ => fun
  | [d1, d2] => { results := [.lit (.bool false)], args := [d1, d2] }
  | _ => none }
def DemandSumsWrongFalsely : Prop := demandSumsRow.holds Tryz.pinned (OpenSpec.ofChange demandSumsWrong)

/-- 'overflightlaw20.DemandOrder': WHATEVER THE INPUT: true; the input reads as it did. -/
def demandOrderSpec : ChangeSpec := { name := "demandOrder", fn := fun _ => fun
  | [d1, d2, d3] => { results := [.lit (.bool true)], args := [d1, d2, d3] }
  | _ => none }
def demandOrderRow : OpenClaim := { program := "ytjiimmaikohliaagreat", sum := "9b9e87ab854fd1ee8990e133cbca1a660176786d417c789fe9ea7012bb8c0bba", func := "overflight/overflightlaw20.DemandOrder", spec := "demandOrder", unfollowed := true, recurses := true, plainKeys := false, apart := false }
def DemandOrderSaid : Prop := demandOrderRow.holds Tryz.pinned (OpenSpec.ofChange demandOrderSpec)

/-- ITS FALSE NEIGHBOUR: 'it returns false'. Refute it at one input. -/
def demandOrderWrong : ChangeSpec := { name := "demandOrder", fn := fun _ => fun
  | [d1, d2, d3] => { results := [.lit (.bool false)], args := [d1, d2, d3] }
  | _ => none }
def DemandOrderWrongFalsely : Prop := demandOrderRow.holds Tryz.pinned (OpenSpec.ofChange demandOrderWrong)

/- THE SECOND FORM. 'bulk': how many values and letters a reading holds, each counted each time it is reached (what is shared counts as often as it is met; a slice's spare places count too). A statement '..UptoSaid' is the law's where the arguments, and the package variables that the reading takes, are together of bulk at most 1048576: NARROWER than '..Said'. Prove '..Said' where nothing that the law and all that it calls make is longer than what came in: it says more and counts as full. Else prove '..UptoSaid'. A law counts once. -/
mutual
def uptoBulk {H : Type} : DataW H → Nat
  | .lit (.string bytes) => bytes.length + 1
  | .lit _ => 1
  | .nil => 1
  | .ptr d => uptoBulk d + 1
  | .slice elems spare => uptoBulkAll elems + uptoBulkAll spare + 1
  | .agg parts => uptoBulkAll parts + 1
  | .iface _ d => uptoBulk d + 1
  | .map entries => uptoBulkEntries entries + 1
  | .held _ => 1
def uptoBulkAll {H : Type} : List (DataW H) → Nat
  | [] => 0
  | d :: r => uptoBulk d + uptoBulkAll r
def uptoBulkEntries {H : Type} : List (Lit × DataW H) → Nat
  | [] => 0
  | x :: r => uptoBulkEntry x + uptoBulkEntries r
def uptoBulkEntry {H : Type} : Lit × DataW H → Nat
  | (.string bytes, d) => bytes.length + uptoBulk d + 1
  | (_, d) => uptoBulk d + 1
 end
def uptoSmall : (H : Type) → List (DataW H) → Bool := fun _ ds => decide (uptoBulkAll ds ≤ 1048576)
def OpenSpec.upto (s : _root_.Go.ChangeSpec) : _root_.Go.OpenSpec := { _root_.Go.OpenSpec.ofChange s with cond := some uptoSmall }

/-- 'overflightlaw20.DemandUsesSpec', WHERE WHAT IT READS IS OF BULK AT MOST 1048576: true; the input reads as it did. -/
def demandUsesSpecUptoRow : OpenClaim := { program := "ytjiimmaikohliaagreat", sum := "9b9e87ab854fd1ee8990e133cbca1a660176786d417c789fe9ea7012bb8c0bba", func := "overflight/overflightlaw20.DemandUsesSpec", spec := "demandUsesSpec", unfollowed := true, recurses := true, plainKeys := false, apart := false, narrowed := true }
def DemandUsesSpecUptoSaid : Prop := demandUsesSpecUptoRow.holds Tryz.pinned (OpenSpec.upto demandUsesSpecSpec)

/-- 'overflightlaw20.DemandAddSpec', WHERE WHAT IT READS IS OF BULK AT MOST 1048576: true; the input reads as it did. -/
def demandAddSpecUptoRow : OpenClaim := { program := "ytjiimmaikohliaagreat", sum := "9b9e87ab854fd1ee8990e133cbca1a660176786d417c789fe9ea7012bb8c0bba", func := "overflight/overflightlaw20.DemandAddSpec", spec := "demandAddSpec", unfollowed := true, recurses := true, plainKeys := false, apart := false, narrowed := true }
def DemandAddSpecUptoSaid : Prop := demandAddSpecUptoRow.holds Tryz.pinned (OpenSpec.upto demandAddSpecSpec)

/-- 'overflightlaw20.DemandRobust', WHERE WHAT IT READS IS OF BULK AT MOST 1048576: true; the input reads as it did. -/
def demandRobustUptoRow : OpenClaim := { program := "ytjiimmaikohliaagreat", sum := "9b9e87ab854fd1ee8990e133cbca1a660176786d417c789fe9ea7012bb8c0bba", func := "overflight/overflightlaw20.DemandRobust", spec := "demandRobust", unfollowed := true, recurses := true, plainKeys := false, apart := false, narrowed := true }
def DemandRobustUptoSaid : Prop := demandRobustUptoRow.holds Tryz.pinned (OpenSpec.upto demandRobustSpec)

/-- 'overflightlaw20.DemandParts', WHERE WHAT IT READS IS OF BULK AT MOST 1048576: true; the input reads as it did. -/
def demandPartsUptoRow : OpenClaim := { program := "ytjiimmaikohliaagreat", sum := "9b9e87ab854fd1ee8990e133cbca1a660176786d417c789fe9ea7012bb8c0bba", func := "overflight/overflightlaw20.DemandParts", spec := "demandParts", unfollowed := true, recurses := true, plainKeys := false, apart := false, narrowed := true }
def DemandPartsUptoSaid : Prop := demandPartsUptoRow.holds Tryz.pinned (OpenSpec.upto demandPartsSpec)

/-- 'overflightlaw20.DemandCounts', WHERE WHAT IT READS IS OF BULK AT MOST 1048576: true; the input reads as it did. -/
def demandCountsUptoRow : OpenClaim := { program := "ytjiimmaikohliaagreat", sum := "9b9e87ab854fd1ee8990e133cbca1a660176786d417c789fe9ea7012bb8c0bba", func := "overflight/overflightlaw20.DemandCounts", spec := "demandCounts", unfollowed := true, recurses := true, plainKeys := false, apart := false, narrowed := true }
def DemandCountsUptoSaid : Prop := demandCountsUptoRow.holds Tryz.pinned (OpenSpec.upto demandCountsSpec)

/-- 'overflightlaw20.DemandSums', WHERE WHAT IT READS IS OF BULK AT MOST 1048576: true; the input reads as it did. -/
def demandSumsUptoRow : OpenClaim := { program := "ytjiimmaikohliaagreat", sum := "9b9e87ab854fd1ee8990e133cbca1a660176786d417c789fe9ea7012bb8c0bba", func := "overflight/overflightlaw20.DemandSums", spec := "demandSums", unfollowed := true, recurses := true, plainKeys := false, apart := false, narrowed := true }
def DemandSumsUptoSaid : Prop := demandSumsUptoRow.holds Tryz.pinned (OpenSpec.upto demandSumsSpec)

/-- 'overflightlaw20.DemandOrder', WHERE WHAT IT READS IS OF BULK AT MOST 1048576: true; the input reads as it did. -/
def demandOrderUptoRow : OpenClaim := { program := "ytjiimmaikohliaagreat", sum := "9b9e87ab854fd1ee8990e133cbca1a660176786d417c789fe9ea7012bb8c0bba", func := "overflight/overflightlaw20.DemandOrder", spec := "demandOrder", unfollowed := true, recurses := true, plainKeys := false, apart := false, narrowed := true }
def DemandOrderUptoSaid : Prop := demandOrderUptoRow.holds Tryz.pinned (OpenSpec.upto demandOrderSpec)

end Rows
end Go.Proofs.YtjiimmaikohliaaGreat
