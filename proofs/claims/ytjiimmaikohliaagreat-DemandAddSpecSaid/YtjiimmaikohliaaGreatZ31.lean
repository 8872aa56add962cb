/-
  overflightlaw20.DemandAddSpec: for all lists of uses and cells, formed or not, Add, Interval and Compare agree with the reference. No conditions.
-/
import Derived.Test.YtjiimmaikohliaaGreatRows
import Derived.Test.YtjiimmaikohliaaGreatG1
import Derived.Test.YtjiimmaikohliaaGreatG2
import Derived.Test.YtjiimmaikohliaaGreatM31
import Derived.SizedLaws
set_option linter.unusedVariables false
set_option linter.unusedSimpArgs false
namespace Go.Proofs.YtjiimmaikohliaaGreat
open Go.ChangeShapes Go.WideShapes Go.ChangeAt Go.RowKit Go.Abs

namespace DemandAddSpecP
theorem own : ownKnob Tryz.prog.godebug = none := by kernel_rfl
theorem laid : laidOutB Tryz.prog = true := by kernel_rfl

set_option maxRecDepth 100000 in
theorem contract (H : Type) (enc : TypeId × Value → H) (W : World) (base : Nat) (args : Array Value) (ds gs : List (DataW H)) (before : List MemPlace)
    (hval : ∀ (j : Nat) t v, Tryz.f4.params[j]? = some t → args[j]? = some v → Value.okWide Tryz.prog W .any base t v)
    (hW : DataW.Whole enc Tryz.prog Tryz.f4.params.toList Rows.demandAddSpecSpec.vars false W args.toList ds gs before)
    (hs : (DataW.weightsEach Tryz.prog (Tryz.f4.params.toList ++ Rows.demandAddSpecSpec.plain.varTypes Tryz.prog) (ds ++ gs)).all (· ≤ reachBytes) = true) :
    Calls Tryz.prog 4 args W fun e W' => ∃ v, e = .returned v ∧ Rows.demandAddSpecSpec.post enc Tryz.prog Tryz.f4 false true false false W args v W' := by
  have hW0 := hW
  obtain ⟨p, q, hA, _⟩ := hW
  rw [Tryz.params4] at hA hval hs
  obtain ⟨v0, vs0, d0, ds0, p0, q0, e0, rfl, rfl, h0, hA⟩ := trodAll_cons hA
  obtain ⟨v1, vs1, d1, ds1, p1, q1, rfl, rfl, rfl, h1, hA⟩ := trodAll_cons hA
  obtain ⟨v2, vs2, d2, ds2, p2, q2, rfl, rfl, rfl, h2, hA⟩ := trodAll_cons hA
  obtain ⟨v3, vs3, d3, ds3, p3, q3, rfl, rfl, rfl, h3, hA⟩ := trodAll_cons hA
  obtain ⟨rfl, rfl, rfl⟩ := trodAll_nil hA
  obtain rfl : args = #[v0, v1, v2, v3] := by cases args; simp_all
  simp only [List.cons_append, List.nil_append, DataW.weightsEach, List.all_append, Bool.and_eq_true] at hs
  obtain ⟨a0, k0, r0⟩ := arg_sliceW Tryz.underlying41 hval 0 rfl rfl rdUseLsW (fun _ => rfl) h0 (fun n hn => of_decide_eq_true (List.all_eq_true.1 hs.1 n hn))
  obtain ⟨a1, k1, r1⟩ := arg_sliceW Tryz.underlying41 hval 1 rfl rfl rdUseLsW (fun _ => rfl) h1 (fun n hn => of_decide_eq_true (List.all_eq_true.1 hs.2.1 n hn))
  obtain ⟨a2, k2, r2⟩ := arg_struct Tryz.underlying43 hval 2 rfl rfl rdCell (fun _ => rfl) h2
  obtain ⟨a3, k3, r3⟩ := arg_struct Tryz.underlying43 hval 3 rfl rfl rdCell (fun _ => rfl) h3
  exact law_contract laid (by rw [Tryz.params4]; decide +kernel) rfl
    (fun ds h => by rw [Tryz.params4] at h; match ds, h with | [_, _, _, _], _ => rfl) rfl Tryz.underlying4 hW0 (law_DemandAddSpec a0 a1 a2 a3 k0 k1 k2 k3)
    (.cons r0 (.cons r1 (.cons r2 (.cons r3 .nil))))

set_option maxRecDepth 100000 in
theorem lifted (os : Os) (started : os.Started) (H : Type) (enc : TypeId × Value → H) :
    ReturnsInHanded {} Tryz.checked os 4 .any (Rows.demandAddSpecSpec.pre6 enc Tryz.prog Tryz.f4 Rows.demandAddSpecRow.domain false) (Rows.demandAddSpecSpec.post enc Tryz.prog Tryz.f4 false true false false) := by
  refine returnsInHanded_of_change_sized (C := Tryz.checked) own started (by kernel_rfl) Tryz.func4
    (ChangeSpec.witness6 (enc := enc) (C := Tryz.checked) false ⟨#[], #[.slice none 0 0, .slice none 0 0, .agg #[.bool false, .int .i64 0, .int .i64 0], .agg #[.bool false, .int .i64 0, .int .i64 0]], []⟩ 8 (by kernel_rfl) (by kernel_rfl) (by kernel_rfl) (by kernel_rfl)) ?_
  intro W base args ds gs before hval hW _ hs _
  exact contract H enc W base args ds gs before hval hW hs
end DemandAddSpecP

theorem demandAddSpec_holds : Rows.DemandAddSpecSaid :=
  OpenClaim.holds_of_wide 4 Tryz.f4 rfl rfl rfl rfl rfl rfl rfl ⟨rfl, rfl, rfl, rfl, rfl⟩ rfl rfl rfl rfl rfl (by kernel_rfl) Tryz.func4 (by kernel_rfl)
    (of_decide_eq_true (by kernel_rfl)) (by unfold Func.isWrapper; first | (rw [if_pos (by decide +kernel)]; kernel_rfl) | (rw [if_neg (by decide +kernel)]; exact ⟨rfl, rfl⟩))
    (fun os started H enc _ => DemandAddSpecP.lifted os started H enc)
end Go.Proofs.YtjiimmaikohliaaGreat
