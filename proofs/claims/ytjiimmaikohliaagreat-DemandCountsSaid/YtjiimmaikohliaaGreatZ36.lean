/-
  overflightlaw20.DemandCounts: a flight that takes a valid path within the day is in one sector at each minute from take-off to before landing, and at each of its airports once; all this is sure, with the places of its class. No conditions.
-/
import Derived.Test.YtjiimmaikohliaaGreatRows
import Derived.Test.YtjiimmaikohliaaGreatG1
import Derived.Test.YtjiimmaikohliaaGreatG2
import Derived.Test.YtjiimmaikohliaaGreatM36
set_option linter.unusedVariables false
set_option linter.unusedSimpArgs false
namespace Go.Proofs.YtjiimmaikohliaaGreat
open Go.ChangeShapes Go.WideShapes Go.ChangeAt Go.RowKit Go.Abs

namespace DemandCountsP
theorem own : ownKnob Tryz.prog.godebug = none := by kernel_rfl
theorem laid : laidOutB Tryz.prog = true := by kernel_rfl

set_option maxRecDepth 100000 in
theorem contract (H : Type) (enc : TypeId × Value → H) (W : World) (base : Nat) (args : Array Value) (ds gs : List (DataW H)) (before : List MemPlace)
    (hval : ∀ (j : Nat) t v, Tryz.f7.params[j]? = some t → args[j]? = some v → Value.okWide Tryz.prog W .any base t v)
    (hW : DataW.Whole enc Tryz.prog Tryz.f7.params.toList Rows.demandCountsSpec.vars false W args.toList ds gs before) :
    Calls Tryz.prog 7 args W fun e W' => ∃ v, e = .returned v ∧ Rows.demandCountsSpec.post enc Tryz.prog Tryz.f7 false true false false W args v W' := by
  have hW0 := hW
  obtain ⟨p, q, hA, _⟩ := hW
  rw [Tryz.params7] at hA hval
  obtain ⟨v0, vs0, d0, ds0, p0, q0, e0, rfl, rfl, h0, hA⟩ := trodAll_cons hA
  obtain ⟨v1, vs1, d1, ds1, p1, q1, rfl, rfl, rfl, h1, hA⟩ := trodAll_cons hA
  obtain ⟨v2, vs2, d2, ds2, p2, q2, rfl, rfl, rfl, h2, hA⟩ := trodAll_cons hA
  obtain ⟨v3, vs3, d3, ds3, p3, q3, rfl, rfl, rfl, h3, hA⟩ := trodAll_cons hA
  obtain ⟨rfl, rfl, rfl⟩ := trodAll_nil hA
  obtain rfl : args = #[v0, v1, v2, v3] := by cases args; simp_all
  obtain ⟨a0, k0, r0⟩ := arg_struct Tryz.underlying28 hval 0 rfl rfl rdTables (fun _ => rfl) h0
  obtain ⟨a1, k1, r1⟩ := arg_struct Tryz.underlying31 hval 1 rfl rfl rdScheme (fun _ => rfl) h1
  obtain ⟨a2, k2, r2⟩ := arg_int Tryz.underlying3 hval 2 rfl rfl h2
  obtain ⟨a3, k3, r3⟩ := arg_struct Tryz.underlying62 hval 3 rfl rfl rdPath (fun _ => rfl) h3
  exact law_contract laid (by rw [Tryz.params7]; decide +kernel) rfl
    (fun ds h => by rw [Tryz.params7] at h; match ds, h with | [_, _, _, _], _ => rfl) rfl Tryz.underlying4 hW0 (law_DemandCounts a0 a1 a2 a3 k0 k1 k2 k3)
    (.cons r0 (.cons r1 (.cons r2 (.cons r3 .nil))))

set_option maxRecDepth 100000 in
theorem lifted (os : Os) (started : os.Started) (H : Type) (enc : TypeId × Value → H) :
    ReturnsInHanded {} Tryz.checked os 7 .any (Rows.demandCountsSpec.pre6 enc Tryz.prog Tryz.f7 Rows.demandCountsRow.domain false) (Rows.demandCountsSpec.post enc Tryz.prog Tryz.f7 false true false false) := by
  refine returnsInHanded_of_change (C := Tryz.checked) own started (by kernel_rfl) Tryz.func7
    (ChangeSpec.witness6 (enc := enc) (C := Tryz.checked) false ⟨#[], #[.agg #[.int .i64 0, .slice none 0 0, .slice none 0 0, .slice none 0 0, .slice none 0 0, .slice none 0 0], .agg #[.slice none 0 0], .int .i64 0, .agg #[.int .i64 0, .slice none 0 0]], []⟩ 8 (by kernel_rfl) (by kernel_rfl) (by kernel_rfl) (by kernel_rfl)) ?_
  intro W base args ds gs before hval hW _ _
  exact contract H enc W base args ds gs before hval hW
end DemandCountsP

theorem demandCounts_holds : Rows.DemandCountsSaid :=
  OpenClaim.holds_of_wide 7 Tryz.f7 rfl rfl rfl rfl rfl rfl rfl ⟨rfl, rfl, rfl, rfl, rfl⟩ rfl rfl rfl rfl rfl (by kernel_rfl) Tryz.func7 (by kernel_rfl)
    (of_decide_eq_true (by kernel_rfl)) (by unfold Func.isWrapper; first | (rw [if_pos (by decide +kernel)]; kernel_rfl) | (rw [if_neg (by decide +kernel)]; exact ⟨rfl, rfl⟩))
    (fun os started H enc _ => DemandCountsP.lifted os started H enc)
end Go.Proofs.YtjiimmaikohliaaGreat
