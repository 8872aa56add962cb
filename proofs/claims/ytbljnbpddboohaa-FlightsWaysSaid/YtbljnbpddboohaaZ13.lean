/-
  overflightlaw15.FlightsWays: for every valid flight, all its ways lead from the same airport to the same one, in its tables; with a further way that leads elsewhere, or one twice, it is refused. No conditions.
-/
import Derived.Test.YtbljnbpddboohaaRows
import Derived.Test.YtbljnbpddboohaaG3
import Derived.Test.YtbljnbpddboohaaG5
import Derived.Test.YtbljnbpddboohaaM11
set_option linter.unusedVariables false
set_option linter.unusedSimpArgs false
namespace Go.Proofs.Ytbljnbpddboohaa
open Go.ChangeShapes Go.WideShapes Go.ChangeAt Go.RowKit Go.Abs

namespace FlightsWaysP
theorem own : ownKnob Try.prog.godebug = none := by kernel_rfl
theorem laid : laidOutB Try.prog = true := by kernel_rfl

set_option maxRecDepth 100000 in
theorem contract (H : Type) (enc : TypeId × Value → H) (W : World) (base : Nat) (args : Array Value) (ds gs : List (DataW H)) (before : List MemPlace)
    (hval : ∀ (j : Nat) t v, Try.f6.params[j]? = some t → args[j]? = some v → Value.okWide Try.prog W .any base t v)
    (hW : DataW.Whole enc Try.prog Try.f6.params.toList Rows.flightsWaysSpec.vars false W args.toList ds gs before) :
    Calls Try.prog 6 args W fun e W' => ∃ v, e = .returned v ∧ Rows.flightsWaysSpec.post enc Try.prog Try.f6 false true false false W args v W' := by
  have hW0 := hW
  obtain ⟨p, q, hA, _⟩ := hW
  rw [Try.params6] at hA hval
  obtain ⟨v0, vs0, d0, ds0, p0, q0, e0, rfl, rfl, h0, hA⟩ := trodAll_cons hA
  obtain ⟨v1, vs1, d1, ds1, p1, q1, rfl, rfl, rfl, h1, hA⟩ := trodAll_cons hA
  obtain ⟨v2, vs2, d2, ds2, p2, q2, rfl, rfl, rfl, h2, hA⟩ := trodAll_cons hA
  obtain ⟨rfl, rfl, rfl⟩ := trodAll_nil hA
  obtain rfl : args = #[v0, v1, v2] := by cases args; simp_all
  obtain ⟨a0, k0, r0⟩ := arg_struct Try.underlying28 hval 0 rfl rfl rdTables (fun _ => rfl) h0
  obtain ⟨a1, k1, r1⟩ := arg_struct Try.underlying33 hval 1 rfl rfl rdFlight (fun _ => rfl) h1
  obtain ⟨a2, k2, r2⟩ := arg_int Try.underlying3 hval 2 rfl rfl h2
  exact law_contract laid (by rw [Try.params6]; decide +kernel) rfl
    (fun ds h => by rw [Try.params6] at h; match ds, h with | [_, _, _], _ => rfl) rfl Try.underlying4 hW0 (law_FlightsWays a0 a1 a2 k0 k1 k2)
    (.cons r0 (.cons r1 (.cons r2 .nil)))

set_option maxRecDepth 100000 in
theorem lifted (os : Os) (started : os.Started) (H : Type) (enc : TypeId × Value → H) :
    ReturnsInHanded {} Try.checked os 6 .any (Rows.flightsWaysSpec.pre6 enc Try.prog Try.f6 Rows.flightsWaysRow.domain false) (Rows.flightsWaysSpec.post enc Try.prog Try.f6 false true false false) := by
  refine returnsInHanded_of_change (C := Try.checked) own started (by kernel_rfl) Try.func6
    (ChangeSpec.witness6 (enc := enc) (C := Try.checked) false ⟨#[], #[.agg #[.int .i64 0, .slice none 0 0, .slice none 0 0, .slice none 0 0, .slice none 0 0, .slice none 0 0], .agg #[.int .i64 0, .int .i64 0, .int .i64 0, .string .empty, .slice none 0 0, .int .i64 0, .int .i64 0, .bool false], .int .i64 0], []⟩ 8 (by kernel_rfl) (by kernel_rfl) (by kernel_rfl) (by kernel_rfl)) ?_
  intro W base args ds gs before hval hW _ _
  exact contract H enc W base args ds gs before hval hW
end FlightsWaysP

theorem flightsWays_holds : Rows.FlightsWaysSaid :=
  OpenClaim.holds_of_wide 6 Try.f6 rfl rfl rfl rfl rfl rfl rfl ⟨rfl, rfl, rfl, rfl, rfl⟩ rfl rfl rfl rfl rfl (by kernel_rfl) Try.func6 (by kernel_rfl)
    (of_decide_eq_true (by kernel_rfl)) (by unfold Func.isWrapper; first | (rw [if_pos (by decide +kernel)]; kernel_rfl) | (rw [if_neg (by decide +kernel)]; exact ⟨rfl, rfl⟩))
    (fun os started H enc _ => FlightsWaysP.lifted os started H enc)
end Go.Proofs.Ytbljnbpddboohaa
