/-
  overflightlaw23.SightTrue: on each trajectory of a flight under a measure, a report of the volume in which the flight is at a minute, by a clock that is wrong by a shift, is right for this trajectory and this shift. No conditions.
-/
import Derived.Test.YtcafjndjnfdnpaaGreatRows
import Derived.Test.YtcafjndjnfdnpaaGreatG1
import Derived.Test.YtcafjndjnfdnpaaGreatM40
set_option linter.unusedVariables false
set_option linter.unusedSimpArgs false
namespace Go.Proofs.YtcafjndjnfdnpaaGreat
open Go.ChangeShapes Go.WideShapes Go.ChangeAt Go.RowKit Go.Abs

namespace SightTrueP
theorem own : ownKnob Tryz.prog.godebug = none := by kernel_rfl
theorem laid : laidOutB Tryz.prog = true := by kernel_rfl

set_option maxRecDepth 100000 in
theorem contract (H : Type) (enc : TypeId × Value → H) (W : World) (base : Nat) (args : Array Value) (ds gs : List (DataW H)) (before : List MemPlace)
    (hval : ∀ (j : Nat) t v, Tryz.f3.params[j]? = some t → args[j]? = some v → Value.okWide Tryz.prog W .any base t v)
    (hW : DataW.Whole enc Tryz.prog Tryz.f3.params.toList Rows.sightTrueSpec.vars false W args.toList ds gs before) :
    Calls Tryz.prog 3 args W fun e W' => ∃ v, e = .returned v ∧ Rows.sightTrueSpec.post enc Tryz.prog Tryz.f3 false true false false W args v W' := by
  have hW0 := hW
  obtain ⟨p, q, hA, _⟩ := hW
  rw [Tryz.params3] at hA hval
  obtain ⟨v0, vs0, d0, ds0, p0, q0, e0, rfl, rfl, h0, hA⟩ := trodAll_cons hA
  obtain ⟨v1, vs1, d1, ds1, p1, q1, rfl, rfl, rfl, h1, hA⟩ := trodAll_cons hA
  obtain ⟨v2, vs2, d2, ds2, p2, q2, rfl, rfl, rfl, h2, hA⟩ := trodAll_cons hA
  obtain ⟨v3, vs3, d3, ds3, p3, q3, rfl, rfl, rfl, h3, hA⟩ := trodAll_cons hA
  obtain ⟨v4, vs4, d4, ds4, p4, q4, rfl, rfl, rfl, h4, hA⟩ := trodAll_cons hA
  obtain ⟨v5, vs5, d5, ds5, p5, q5, rfl, rfl, rfl, h5, hA⟩ := trodAll_cons hA
  obtain ⟨v6, vs6, d6, ds6, p6, q6, rfl, rfl, rfl, h6, hA⟩ := trodAll_cons hA
  obtain ⟨rfl, rfl, rfl⟩ := trodAll_nil hA
  obtain rfl : args = #[v0, v1, v2, v3, v4, v5, v6] := by cases args; simp_all
  obtain ⟨a0, k0, r0⟩ := arg_struct Tryz.underlying28 hval 0 rfl rfl rdTables (fun _ => rfl) h0
  obtain ⟨a1, k1, r1⟩ := arg_struct Tryz.underlying33 hval 1 rfl rfl rdFlight (fun _ => rfl) h1
  obtain ⟨a2, k2, r2⟩ := arg_struct Tryz.underlying35 hval 2 rfl rfl rdOpt (fun _ => rfl) h2
  obtain ⟨a3, k3, r3⟩ := arg_int Tryz.underlying36 hval 3 rfl rfl h3
  obtain ⟨a4, k4, r4⟩ := arg_int Tryz.underlying36 hval 4 rfl rfl h4
  obtain ⟨a5, k5, r5⟩ := arg_int Tryz.underlying36 hval 5 rfl rfl h5
  obtain ⟨a6, k6, r6⟩ := arg_int Tryz.underlying37 hval 6 rfl rfl h6
  exact law_contract laid (by rw [Tryz.params3]; decide +kernel) rfl
    (fun ds h => by rw [Tryz.params3] at h; match ds, h with | [_, _, _, _, _, _, _], _ => rfl) rfl Tryz.underlying4 hW0 (law_SightTrue a0 a1 a2 a3 a4 a5 a6 k0 k1 k2 k3 k4 k5 k6)
    (.cons r0 (.cons r1 (.cons r2 (.cons r3 (.cons r4 (.cons r5 (.cons r6 .nil)))))))

set_option maxRecDepth 100000 in
theorem lifted (os : Os) (started : os.Started) (H : Type) (enc : TypeId × Value → H) :
    ReturnsInHanded {} Tryz.checked os 3 .any (Rows.sightTrueSpec.pre6 enc Tryz.prog Tryz.f3 Rows.sightTrueRow.domain false) (Rows.sightTrueSpec.post enc Tryz.prog Tryz.f3 false true false false) := by
  refine returnsInHanded_of_change (C := Tryz.checked) own started (by kernel_rfl) Tryz.func3
    (ChangeSpec.witness6 (enc := enc) (C := Tryz.checked) false ⟨#[], #[.agg #[.int .i64 0, .slice none 0 0, .slice none 0 0, .slice none 0 0, .slice none 0 0, .slice none 0 0], .agg #[.int .i64 0, .int .i64 0, .int .i64 0, .string .empty, .slice none 0 0, .int .i64 0, .int .i64 0, .bool false], .agg #[.int .i64 0, .int .i64 0, .int .i64 0, .bool false], .int .u64 0, .int .u64 0, .int .u64 0, .int .i8 0], []⟩ 8 (by kernel_rfl) (by kernel_rfl) (by kernel_rfl) (by kernel_rfl)) ?_
  intro W base args ds gs before hval hW _ _
  exact contract H enc W base args ds gs before hval hW
end SightTrueP

theorem and_tt {a b : Bool} (ha : a = true) (hb : b = true) : (a && b) = true := by rw [ha, hb]; rfl

set_option maxHeartbeats 4000000 in
theorem closed_sightTrue : joinedFacts Tryz.prog 3 Tryz.f3 Rows.sightTrueSpec Rows.sightTrueRow = true := by
  unfold joinedFacts
  repeat' (with_reducible apply and_tt)
  all_goals (as_aux_lemma => kernel_rfl)

theorem sightTrue_holds : Rows.SightTrueSaid :=
  OpenClaim.holds_of_wide 3 Tryz.f3 rfl rfl rfl rfl rfl rfl rfl ⟨rfl, rfl, rfl, rfl, rfl⟩ rfl rfl rfl rfl rfl (by kernel_rfl) Tryz.func3 closed_sightTrue
    (of_decide_eq_true (by kernel_rfl)) (by unfold Func.isWrapper; first | (rw [if_pos (by decide +kernel)]; kernel_rfl) | (rw [if_neg (by decide +kernel)]; exact ⟨rfl, rfl⟩))
    (fun os started H enc _ => SightTrueP.lifted os started H enc)
end Go.Proofs.YtcafjndjnfdnpaaGreat
