/-
  overflightlaw20.DemandRobust: for every list of flights, whichever of its paths each takes: of each cell, all together take at least what is sure and at most what is possible. No conditions.
-/
import Derived.Test.YtjiimmaikohliaaGreatRows
import Derived.Test.YtjiimmaikohliaaGreatG1
import Derived.Test.YtjiimmaikohliaaGreatG2
import Derived.Test.YtjiimmaikohliaaGreatM37
set_option linter.unusedVariables false
set_option linter.unusedSimpArgs false
namespace Go.Proofs.YtjiimmaikohliaaGreat
open Go.ChangeShapes Go.WideShapes Go.ChangeAt Go.RowKit Go.Abs

namespace DemandRobustP
theorem own : ownKnob Tryz.prog.godebug = none := by kernel_rfl
theorem laid : laidOutB Tryz.prog = true := by kernel_rfl

set_option maxRecDepth 100000 in
theorem contract (H : Type) (enc : TypeId × Value → H) (W : World) (base : Nat) (args : Array Value) (ds gs : List (DataW H)) (before : List MemPlace)
    (hval : ∀ (j : Nat) t v, Tryz.f5.params[j]? = some t → args[j]? = some v → Value.okWide Tryz.prog W .any base t v)
    (hW : DataW.Whole enc Tryz.prog Tryz.f5.params.toList Rows.demandRobustSpec.vars false W args.toList ds gs before) :
    Calls Tryz.prog 5 args W fun e W' => ∃ v, e = .returned v ∧ Rows.demandRobustSpec.post enc Tryz.prog Tryz.f5 false true false false W args v W' := by
  have hW0 := hW
  obtain ⟨p, q, hA, _⟩ := hW
  rw [Tryz.params5] at hA hval
  obtain ⟨v0, vs0, d0, ds0, p0, q0, e0, rfl, rfl, h0, hA⟩ := trodAll_cons hA
  obtain ⟨v1, vs1, d1, ds1, p1, q1, rfl, rfl, rfl, h1, hA⟩ := trodAll_cons hA
  obtain ⟨v2, vs2, d2, ds2, p2, q2, rfl, rfl, rfl, h2, hA⟩ := trodAll_cons hA
  obtain ⟨rfl, rfl, rfl⟩ := trodAll_nil hA
  obtain rfl : args = #[v0, v1, v2] := by cases args; simp_all
  obtain ⟨a0, k0, r0⟩ := arg_struct Tryz.underlying28 hval 0 rfl rfl rdTables (fun _ => rfl) h0
  obtain ⟨a1, k1, r1⟩ := arg_struct Tryz.underlying31 hval 1 rfl rfl rdScheme (fun _ => rfl) h1
  obtain ⟨a2, k2, r2⟩ := arg_slice Tryz.underlying50 hval 2 rfl rfl rdFleets (fun _ => rfl) h2
  exact law_contract laid (by rw [Tryz.params5]; decide +kernel) rfl
    (fun ds h => by rw [Tryz.params5] at h; match ds, h with | [_, _, _], _ => rfl) rfl Tryz.underlying4 hW0 (law_DemandRobust a0 a1 a2 k0 k1 k2)
    (.cons r0 (.cons r1 (.cons r2 .nil)))

set_option maxRecDepth 100000 in
theorem lifted (os : Os) (started : os.Started) (H : Type) (enc : TypeId × Value → H) :
    ReturnsInHanded {} Tryz.checked os 5 .any (Rows.demandRobustSpec.pre6 enc Tryz.prog Tryz.f5 Rows.demandRobustRow.domain false) (Rows.demandRobustSpec.post enc Tryz.prog Tryz.f5 false true false false) := by
  refine returnsInHanded_of_change (C := Tryz.checked) own started (by kernel_rfl) Tryz.func5
    (ChangeSpec.witness6 (enc := enc) (C := Tryz.checked) false ⟨#[], #[.agg #[.int .i64 0, .slice none 0 0, .slice none 0 0, .slice none 0 0, .slice none 0 0, .slice none 0 0], .agg #[.slice none 0 0], .slice none 0 0], []⟩ 8 (by kernel_rfl) (by kernel_rfl) (by kernel_rfl) (by kernel_rfl)) ?_
  intro W base args ds gs before hval hW _ _
  exact contract H enc W base args ds gs before hval hW
end DemandRobustP

theorem demandRobust_holds : Rows.DemandRobustSaid :=
  OpenClaim.holds_of_wide 5 Tryz.f5 rfl rfl rfl rfl rfl rfl rfl ⟨rfl, rfl, rfl, rfl, rfl⟩ rfl rfl rfl rfl rfl (by kernel_rfl) Tryz.func5 (by kernel_rfl)
    (of_decide_eq_true (by kernel_rfl)) (by unfold Func.isWrapper; first | (rw [if_pos (by decide +kernel)]; kernel_rfl) | (rw [if_neg (by decide +kernel)]; exact ⟨rfl, rfl⟩))
    (fun os started H enc _ => DemandRobustP.lifted os started H enc)
end Go.Proofs.YtjiimmaikohliaaGreat
