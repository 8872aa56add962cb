/-
  No cell of these rows narrows 'for every input' (looked for: loops, veiled, ifaces, maps, wideKeys, modest, calm, conditions, laid).
  DERIVED. THE GIVEN ROWS OF THIS SEAT. 5 by the template 'for every input the law returns true; each argument reads behind the call as it read before'; 0 by the template 'total and deterministic' (their statements: YtbljnbpddboohaaTotals.lean).
  GIVEN WITH THE SEED: the statements are not yours to turn. If you find one false, say at which input.
  Laid BY PROGRAM, IN A SANDBOX (cutbox-rows.mjs): the forced cells as the released guide's own fill.sh prints them over the translation eb089a3e155ecb9e… (all of the seat's roots in one cut). By AI agents, Wed Nov 11 2026. No macro, syntax, notation, axiom, sorry.
-/
import Derived.Test.YtbljnbpddboohaaChecked
import GoSem.Claim
import GoSem.ClaimJoined
import GoSem.ClaimMapViews
import Derived.JoinedTies
import Derived.KernelRfl
namespace Go.Proofs.Ytbljnbpddboohaa
/- THE CELL 'sum', in the pinned program and in every row, IS THE sha256 OF THE DUMP (.gsa) THAT YtbljnbpddboohaaProg.lean LOADS. Nothing in Lean hashes anything: it is a label: what it is worth is what the hold of that sum in a sandbox is worth. -/
noncomputable def Try.pinned : Pinned := { name := "ytbljnbpddboohaa", sum := "eb089a3e155ecb9e92017694ede201a3c83c1f2a3bb2c43b7626f69cdf04cf5a", checked := Try.checked }
namespace Rows
def none {H : Type} : Left H := { results := [], args := [] }

/-- 'overflightlaw15.FlightsOrder': WHATEVER THE INPUT: true; the input reads as it did. -/
def flightsOrderSpec : ChangeSpec := { name := "flightsOrder", fn := fun _ => fun
  | [d1, d2, d3] => { results := [.lit (.bool true)], args := [d1, d2, d3] }
  | _ => none }
def flightsOrderRow : OpenClaim := { program := "ytbljnbpddboohaa", sum := "eb089a3e155ecb9e92017694ede201a3c83c1f2a3bb2c43b7626f69cdf04cf5a", func := "overflight/overflightlaw15.FlightsOrder", spec := "flightsOrder", inPlace := ["internal/bytealg.IndexByteString"], unfollowed := true, recurses := true, apart := false }
def FlightsOrderSaid : Prop := flightsOrderRow.holds Try.pinned (OpenSpec.ofChange flightsOrderSpec)

/-- ITS FALSE NEIGHBOUR: 'it returns false'. Refute it at one input. -/
def flightsOrderWrong : ChangeSpec := { name := "flightsOrder", fn := fun _ => fun
  | [d1, d2, d3] => { results := [.lit (.bool false)], args := [d1, d2, d3] }
  | _ => none }
def FlightsOrderWrongFalsely : Prop := flightsOrderRow.holds Try.pinned (OpenSpec.ofChange flightsOrderWrong)

/-- 'overflightlaw15.FlightsMany': WHATEVER THE INPUT: true; the input reads as it did. -/
def flightsManySpec : ChangeSpec := { name := "flightsMany", fn := fun _ => fun
  | [d1, d2] => { results := [.lit (.bool true)], args := [d1, d2] }
  | _ => none }
def flightsManyRow : OpenClaim := { program := "ytbljnbpddboohaa", sum := "eb089a3e155ecb9e92017694ede201a3c83c1f2a3bb2c43b7626f69cdf04cf5a", func := "overflight/overflightlaw15.FlightsMany", spec := "flightsMany", inPlace := ["internal/bytealg.IndexByteString"], unfollowed := true, recurses := true, apart := false }
def FlightsManySaid : Prop := flightsManyRow.holds Try.pinned (OpenSpec.ofChange flightsManySpec)

/-- ITS FALSE NEIGHBOUR: 'it returns false'. Refute it at one input. -/
def flightsManyWrong : ChangeSpec := { name := "flightsMany", fn := fun _ => fun
  | [d1, d2] => { results := [.lit (.bool false)], args := [d1, d2] }
  | _ => none }
def FlightsManyWrongFalsely : Prop := flightsManyRow.holds Try.pinned (OpenSpec.ofChange flightsManyWrong)

/-- 'overflightlaw15.FlightsTotal': WHATEVER THE INPUT: true; the input reads as it did. -/
def flightsTotalSpec : ChangeSpec := { name := "flightsTotal", fn := fun _ => fun
  | [d1, d2, d3] => { results := [.lit (.bool true)], args := [d1, d2, d3] }
  | _ => none }
def flightsTotalRow : OpenClaim := { program := "ytbljnbpddboohaa", sum := "eb089a3e155ecb9e92017694ede201a3c83c1f2a3bb2c43b7626f69cdf04cf5a", func := "overflight/overflightlaw15.FlightsTotal", spec := "flightsTotal", inPlace := ["internal/bytealg.IndexByteString"], unfollowed := true, recurses := true, apart := false }
def FlightsTotalSaid : Prop := flightsTotalRow.holds Try.pinned (OpenSpec.ofChange flightsTotalSpec)

/-- ITS FALSE NEIGHBOUR: 'it returns false'. Refute it at one input. -/
def flightsTotalWrong : ChangeSpec := { name := "flightsTotal", fn := fun _ => fun
  | [d1, d2, d3] => { results := [.lit (.bool false)], args := [d1, d2, d3] }
  | _ => none }
def FlightsTotalWrongFalsely : Prop := flightsTotalRow.holds Try.pinned (OpenSpec.ofChange flightsTotalWrong)

/-- 'overflightlaw15.FlightsWays': WHATEVER THE INPUT: true; the input reads as it did. -/
def flightsWaysSpec : ChangeSpec := { name := "flightsWays", fn := fun _ => fun
  | [d1, d2, d3] => { results := [.lit (.bool true)], args := [d1, d2, d3] }
  | _ => none }
def flightsWaysRow : OpenClaim := { program := "ytbljnbpddboohaa", sum := "eb089a3e155ecb9e92017694ede201a3c83c1f2a3bb2c43b7626f69cdf04cf5a", func := "overflight/overflightlaw15.FlightsWays", spec := "flightsWays", inPlace := ["internal/bytealg.IndexByteString"], unfollowed := true, recurses := true, apart := false }
def FlightsWaysSaid : Prop := flightsWaysRow.holds Try.pinned (OpenSpec.ofChange flightsWaysSpec)

/-- ITS FALSE NEIGHBOUR: 'it returns false'. Refute it at one input. -/
def flightsWaysWrong : ChangeSpec := { name := "flightsWays", fn := fun _ => fun
  | [d1, d2, d3] => { results := [.lit (.bool false)], args := [d1, d2, d3] }
  | _ => none }
def FlightsWaysWrongFalsely : Prop := flightsWaysRow.holds Try.pinned (OpenSpec.ofChange flightsWaysWrong)

/-- 'overflightlaw15.FlightsDecided': WHATEVER THE INPUT: true; the input reads as it did. -/
def flightsDecidedSpec : ChangeSpec := { name := "flightsDecided", fn := fun _ => fun
  | [d1, d2, d3] => { results := [.lit (.bool true)], args := [d1, d2, d3] }
  | _ => none }
def flightsDecidedRow : OpenClaim := { program := "ytbljnbpddboohaa", sum := "eb089a3e155ecb9e92017694ede201a3c83c1f2a3bb2c43b7626f69cdf04cf5a", func := "overflight/overflightlaw15.FlightsDecided", spec := "flightsDecided", inPlace := ["internal/bytealg.IndexByteString"], unfollowed := true, recurses := true, apart := false }
def FlightsDecidedSaid : Prop := flightsDecidedRow.holds Try.pinned (OpenSpec.ofChange flightsDecidedSpec)

/-- ITS FALSE NEIGHBOUR: 'it returns false'. Refute it at one input. -/
def flightsDecidedWrong : ChangeSpec := { name := "flightsDecided", fn := fun _ => fun
  | [d1, d2, d3] => { results := [.lit (.bool false)], args := [d1, d2, d3] }
  | _ => none }
def FlightsDecidedWrongFalsely : Prop := flightsDecidedRow.holds Try.pinned (OpenSpec.ofChange flightsDecidedWrong)

/- THE SECOND FORM. 'bulk': how many values and letters a reading holds, each counted each time it is reached (what is shared counts as often as it is met; a slice's spare places count too). A statement '..UptoSaid' is the law's where the arguments, and the package variables that the reading takes, are together of bulk at most 1048576: NARROWER than '..Said'. Prove '..Said' where nothing that the law and all that it calls make is longer than what came in: it says more and counts as full. Else prove '..UptoSaid'. A law counts once. -/
mutual
def uptoBulk {H : Type} : DataW H → Nat
  | .lit (.string bytes) => bytes.length + 1
  | .lit _ => 1
  | .nil => 1
  | .ptr d => uptoBulk d + 1
  | .slice elems spare => uptoBulkAll elems + uptoBulkAll spare + 1
  | .agg parts => uptoBulkAll parts + 1
  | .iface _ d => uptoBulk d + 1
  | .map entries => uptoBulkEntries entries + 1
  | .held _ => 1
def uptoBulkAll {H : Type} : List (DataW H) → Nat
  | [] => 0
  | d :: r => uptoBulk d + uptoBulkAll r
def uptoBulkEntries {H : Type} : List (Lit × DataW H) → Nat
  | [] => 0
  | x :: r => uptoBulkEntry x + uptoBulkEntries r
def uptoBulkEntry {H : Type} : Lit × DataW H → Nat
  | (.string bytes, d) => bytes.length + uptoBulk d + 1
  | (_, d) => uptoBulk d + 1
 end
def uptoSmall : (H : Type) → List (DataW H) → Bool := fun _ ds => decide (uptoBulkAll ds ≤ 1048576)
def OpenSpec.upto (s : _root_.Go.ChangeSpec) : _root_.Go.OpenSpec := { _root_.Go.OpenSpec.ofChange s with cond := some uptoSmall }

/-- 'overflightlaw15.FlightsOrder', WHERE WHAT IT READS IS OF BULK AT MOST 1048576: true; the input reads as it did. -/
def flightsOrderUptoRow : OpenClaim := { program := "ytbljnbpddboohaa", sum := "eb089a3e155ecb9e92017694ede201a3c83c1f2a3bb2c43b7626f69cdf04cf5a", func := "overflight/overflightlaw15.FlightsOrder", spec := "flightsOrder", inPlace := ["internal/bytealg.IndexByteString"], unfollowed := true, recurses := true, apart := false, narrowed := true }
def FlightsOrderUptoSaid : Prop := flightsOrderUptoRow.holds Try.pinned (OpenSpec.upto flightsOrderSpec)

/-- 'overflightlaw15.FlightsMany', WHERE WHAT IT READS IS OF BULK AT MOST 1048576: true; the input reads as it did. -/
def flightsManyUptoRow : OpenClaim := { program := "ytbljnbpddboohaa", sum := "eb089a3e155ecb9e92017694ede201a3c83c1f2a3bb2c43b7626f69cdf04cf5a", func := "overflight/overflightlaw15.FlightsMany", spec := "flightsMany", inPlace := ["internal/bytealg.IndexByteString"], unfollowed := true, recurses := true, apart := false, narrowed := true }
def FlightsManyUptoSaid : Prop := flightsManyUptoRow.holds Try.pinned (OpenSpec.upto flightsManySpec)

/-- 'overflightlaw15.FlightsTotal', WHERE WHAT IT READS IS OF BULK AT MOST 1048576: true; the input reads as it did. -/
def flightsTotalUptoRow : OpenClaim := { program := "ytbljnbpddboohaa", sum := "eb089a3e155ecb9e92017694ede201a3c83c1f2a3bb2c43b7626f69cdf04cf5a", func := "overflight/overflightlaw15.FlightsTotal", spec := "flightsTotal", inPlace := ["internal/bytealg.IndexByteString"], unfollowed := true, recurses := true, apart := false, narrowed := true }
def FlightsTotalUptoSaid : Prop := flightsTotalUptoRow.holds Try.pinned (OpenSpec.upto flightsTotalSpec)

/-- 'overflightlaw15.FlightsWays', WHERE WHAT IT READS IS OF BULK AT MOST 1048576: true; the input reads as it did. -/
def flightsWaysUptoRow : OpenClaim := { program := "ytbljnbpddboohaa", sum := "eb089a3e155ecb9e92017694ede201a3c83c1f2a3bb2c43b7626f69cdf04cf5a", func := "overflight/overflightlaw15.FlightsWays", spec := "flightsWays", inPlace := ["internal/bytealg.IndexByteString"], unfollowed := true, recurses := true, apart := false, narrowed := true }
def FlightsWaysUptoSaid : Prop := flightsWaysUptoRow.holds Try.pinned (OpenSpec.upto flightsWaysSpec)

/-- 'overflightlaw15.FlightsDecided', WHERE WHAT IT READS IS OF BULK AT MOST 1048576: true; the input reads as it did. -/
def flightsDecidedUptoRow : OpenClaim := { program := "ytbljnbpddboohaa", sum := "eb089a3e155ecb9e92017694ede201a3c83c1f2a3bb2c43b7626f69cdf04cf5a", func := "overflight/overflightlaw15.FlightsDecided", spec := "flightsDecided", inPlace := ["internal/bytealg.IndexByteString"], unfollowed := true, recurses := true, apart := false, narrowed := true }
def FlightsDecidedUptoSaid : Prop := flightsDecidedUptoRow.holds Try.pinned (OpenSpec.upto flightsDecidedSpec)

end Rows
end Go.Proofs.Ytbljnbpddboohaa
