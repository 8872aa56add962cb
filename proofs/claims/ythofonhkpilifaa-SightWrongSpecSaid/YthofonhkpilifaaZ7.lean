/-
  overflightlaw23.SightWrongSpec: for all tables, reports, shifts and trajectories, valid or not, Wrong agrees with the reference. No conditions.
-/
import Derived.Test.YthofonhkpilifaaRows
import Derived.Test.YthofonhkpilifaaG3
import Derived.Test.YthofonhkpilifaaM6
namespace Go.Proofs.Ythofonhkpilifaa
open Go.ChangeShapes Go.WideShapes Go.ChangeAt Go.RowKit Go.Abs

namespace SightWrongSpecP
theorem own : ownKnob Try.prog.godebug = none := by kernel_rfl
theorem laid : laidOutB Try.prog = true := by kernel_rfl

set_option maxRecDepth 100000 in
theorem contract (H : Type) (enc : TypeId × Value → H) (W : World) (base : Nat) (args : Array Value) (ds gs : List (DataW H)) (before : List MemPlace)
    (hval : ∀ (j : Nat) t v, Try.f4.params[j]? = some t → args[j]? = some v → Value.okWide Try.prog W .any base t v)
    (hW : DataW.Whole enc Try.prog Try.f4.params.toList Rows.sightWrongSpecSpec.vars false W args.toList ds gs before) :
    Calls Try.prog 4 args W fun e W' => ∃ v, e = .returned v ∧ Rows.sightWrongSpecSpec.post enc Try.prog Try.f4 false true false false W args v W' := by
  have hW0 := hW
  obtain ⟨p, q, hA, _⟩ := hW
  rw [Try.params4] at hA hval
  obtain ⟨v0, vs0, d0, ds0, p0, q0, e0, rfl, rfl, h0, hA⟩ := trodAll_cons hA
  obtain ⟨v1, vs1, d1, ds1, p1, q1, rfl, rfl, rfl, h1, hA⟩ := trodAll_cons hA
  obtain ⟨v2, vs2, d2, ds2, p2, q2, rfl, rfl, rfl, h2, hA⟩ := trodAll_cons hA
  obtain ⟨v3, vs3, d3, ds3, p3, q3, rfl, rfl, rfl, h3, hA⟩ := trodAll_cons hA
  obtain ⟨v4, vs4, d4, ds4, p4, q4, rfl, rfl, rfl, h4, hA⟩ := trodAll_cons hA
  obtain ⟨rfl, rfl, rfl⟩ := trodAll_nil hA
  obtain rfl : args = #[v0, v1, v2, v3, v4] := by cases args; simp_all
  obtain ⟨a0, k0, r0⟩ := arg_struct Try.underlying28 hval 0 rfl rfl rdTables (fun _ => rfl) h0
  obtain ⟨a1, k1, r1⟩ := arg_int Try.underlying3 hval 1 rfl rfl h1
  obtain ⟨a2, k2, r2⟩ := arg_slice Try.underlying39 hval 2 rfl rfl rdReports (fun _ => rfl) h2
  obtain ⟨a3, k3, r3⟩ := arg_slice Try.underlying40 hval 3 rfl rfl rdInts (fun _ => rfl) h3
  obtain ⟨a4, k4, r4⟩ := arg_slice Try.underlying31 hval 4 rfl rfl rdPaths (fun _ => rfl) h4
  exact law_contract laid (by rw [Try.params4]; decide +kernel) rfl
    (fun ds h => by rw [Try.params4] at h; match ds, h with | [_, _, _, _, _], _ => rfl) rfl Try.underlying4 hW0 (law_SightWrongSpec a0 a1 a2 a3 a4 k0 k1 k2 k3 k4)
    (.cons r0 (.cons r1 (.cons r2 (.cons r3 (.cons r4 .nil)))))

set_option maxRecDepth 100000 in
theorem lifted (os : Os) (started : os.Started) (H : Type) (enc : TypeId × Value → H) :
    ReturnsInHanded {} Try.checked os 4 .any (Rows.sightWrongSpecSpec.pre6 enc Try.prog Try.f4 Rows.sightWrongSpecRow.domain false) (Rows.sightWrongSpecSpec.post enc Try.prog Try.f4 false true false false) := by
  refine returnsInHanded_of_change (C := Try.checked) own started (by kernel_rfl) Try.func4
    (ChangeSpec.witness6 (enc := enc) (C := Try.checked) false ⟨#[], #[.agg #[.int .i64 0, .slice none 0 0, .slice none 0 0, .slice none 0 0, .slice none 0 0, .slice none 0 0], .int .i64 0, .slice none 0 0, .slice none 0 0, .slice none 0 0], []⟩ 8 (by kernel_rfl) (by kernel_rfl) (by kernel_rfl) (by kernel_rfl)) ?_
  intro W base args ds gs before hval hW _ _
  exact contract H enc W base args ds gs before hval hW
end SightWrongSpecP

theorem sightWrongSpec_holds : Rows.SightWrongSpecSaid :=
  OpenClaim.holds_of_wide 4 Try.f4 rfl rfl rfl rfl rfl rfl rfl ⟨rfl, rfl, rfl, rfl, rfl⟩ rfl rfl rfl rfl rfl (by kernel_rfl) Try.func4 (by kernel_rfl)
    (of_decide_eq_true (by kernel_rfl)) (by unfold Func.isWrapper; first | (rw [if_pos (by decide +kernel)]; kernel_rfl) | (rw [if_neg (by decide +kernel)]; exact ⟨rfl, rfl⟩))
    (fun os started H enc _ => SightWrongSpecP.lifted os started H enc)
end Go.Proofs.Ythofonhkpilifaa
