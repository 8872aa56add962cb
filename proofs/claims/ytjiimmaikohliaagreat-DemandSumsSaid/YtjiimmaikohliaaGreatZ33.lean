/-
  overflightlaw20.DemandSums: for all formed lists of uses: their sum does not depend on their order, nor on whether some are added first; it has all places. No conditions.
-/
import Derived.Test.YtjiimmaikohliaaGreatRows
import Derived.Test.YtjiimmaikohliaaGreatG1
import Derived.Test.YtjiimmaikohliaaGreatG2
import Derived.Test.YtjiimmaikohliaaGreatM33
import Derived.SizedLaws
set_option linter.unusedVariables false
set_option linter.unusedSimpArgs false
namespace Go.Proofs.YtjiimmaikohliaaGreat
open Go.ChangeShapes Go.WideShapes Go.ChangeAt Go.RowKit Go.Abs

namespace DemandSumsP
theorem own : ownKnob Tryz.prog.godebug = none := by kernel_rfl
theorem laid : laidOutB Tryz.prog = true := by kernel_rfl

set_option maxRecDepth 100000 in
theorem contract (H : Type) (enc : TypeId × Value → H) (W : World) (base : Nat) (args : Array Value) (ds gs : List (DataW H)) (before : List MemPlace)
    (hval : ∀ (j : Nat) t v, Tryz.f8.params[j]? = some t → args[j]? = some v → Value.okWide Tryz.prog W .any base t v)
    (hW : DataW.Whole enc Tryz.prog Tryz.f8.params.toList Rows.demandSumsSpec.vars false W args.toList ds gs before)
    (hs : (DataW.weightsEach Tryz.prog (Tryz.f8.params.toList ++ Rows.demandSumsSpec.plain.varTypes Tryz.prog) (ds ++ gs)).all (· ≤ reachBytes) = true) :
    Calls Tryz.prog 8 args W fun e W' => ∃ v, e = .returned v ∧ Rows.demandSumsSpec.post enc Tryz.prog Tryz.f8 false true false false W args v W' := by
  have hW0 := hW
  obtain ⟨p, q, hA, _⟩ := hW
  rw [Tryz.params8] at hA hval hs
  obtain ⟨v0, vs0, d0, ds0, p0, q0, e0, rfl, rfl, h0, hA⟩ := trodAll_cons hA
  obtain ⟨v1, vs1, d1, ds1, p1, q1, rfl, rfl, rfl, h1, hA⟩ := trodAll_cons hA
  obtain ⟨rfl, rfl, rfl⟩ := trodAll_nil hA
  obtain rfl : args = #[v0, v1] := by cases args; simp_all
  simp only [List.cons_append, List.nil_append, DataW.weightsEach, List.all_append, Bool.and_eq_true] at hs
  obtain ⟨a0, k0, r0⟩ := arg_sliceW Tryz.underlying41 hval 0 rfl rfl rdUseLsW (fun _ => rfl) h0 (fun n hn => of_decide_eq_true (List.all_eq_true.1 hs.1 n hn))
  obtain ⟨a1, k1, r1⟩ := arg_int Tryz.underlying5 hval 1 rfl rfl h1
  exact law_contract laid (by rw [Tryz.params8]; decide +kernel) rfl
    (fun ds h => by rw [Tryz.params8] at h; match ds, h with | [_, _], _ => rfl) rfl Tryz.underlying4 hW0 (law_DemandSums a0 a1 k0 k1)
    (.cons r0 (.cons r1 .nil))

set_option maxRecDepth 100000 in
theorem lifted (os : Os) (started : os.Started) (H : Type) (enc : TypeId × Value → H) :
    ReturnsInHanded {} Tryz.checked os 8 .any (Rows.demandSumsSpec.pre6 enc Tryz.prog Tryz.f8 Rows.demandSumsRow.domain false) (Rows.demandSumsSpec.post enc Tryz.prog Tryz.f8 false true false false) := by
  refine returnsInHanded_of_change_sized (C := Tryz.checked) own started (by kernel_rfl) Tryz.func8
    (ChangeSpec.witness6 (enc := enc) (C := Tryz.checked) false ⟨#[], #[.slice none 0 0, .int .u8 0], []⟩ 8 (by kernel_rfl) (by kernel_rfl) (by kernel_rfl) (by kernel_rfl)) ?_
  intro W base args ds gs before hval hW _ hs _
  exact contract H enc W base args ds gs before hval hW hs
end DemandSumsP

theorem demandSums_holds : Rows.DemandSumsSaid :=
  OpenClaim.holds_of_wide 8 Tryz.f8 rfl rfl rfl rfl rfl rfl rfl ⟨rfl, rfl, rfl, rfl, rfl⟩ rfl rfl rfl rfl rfl (by kernel_rfl) Tryz.func8 (by kernel_rfl)
    (of_decide_eq_true (by kernel_rfl)) (by unfold Func.isWrapper; first | (rw [if_pos (by decide +kernel)]; kernel_rfl) | (rw [if_neg (by decide +kernel)]; exact ⟨rfl, rfl⟩))
    (fun os started H enc _ => DemandSumsP.lifted os started H enc)
end Go.Proofs.YtjiimmaikohliaaGreat
