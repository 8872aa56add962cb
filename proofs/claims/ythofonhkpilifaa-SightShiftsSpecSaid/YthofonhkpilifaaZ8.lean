/-
  overflightlaw23.SightShiftsSpec: for all stations, valid or not, Shifts agrees with the reference, and there are as many lists as the product of all numbers of shifts, strictly increasing. No conditions.
-/
import Derived.Test.YthofonhkpilifaaRows
import Derived.Test.YthofonhkpilifaaG3
import Derived.Test.YthofonhkpilifaaM7
namespace Go.Proofs.Ythofonhkpilifaa
open Go.ChangeShapes Go.WideShapes Go.ChangeAt Go.RowKit Go.Abs

namespace SightShiftsSpecP
theorem own : ownKnob Try.prog.godebug = none := by kernel_rfl
theorem laid : laidOutB Try.prog = true := by kernel_rfl

set_option maxRecDepth 100000 in
theorem contract (H : Type) (enc : TypeId × Value → H) (W : World) (base : Nat) (args : Array Value) (ds gs : List (DataW H)) (before : List MemPlace)
    (hval : ∀ (j : Nat) t v, Try.f5.params[j]? = some t → args[j]? = some v → Value.okWide Try.prog W .any base t v)
    (hW : DataW.Whole enc Try.prog Try.f5.params.toList Rows.sightShiftsSpecSpec.vars false W args.toList ds gs before) :
    Calls Try.prog 5 args W fun e W' => ∃ v, e = .returned v ∧ Rows.sightShiftsSpecSpec.post enc Try.prog Try.f5 false true false false W args v W' := by
  have hW0 := hW
  obtain ⟨p, q, hA, _⟩ := hW
  rw [Try.params5] at hA hval
  obtain ⟨v0, vs0, d0, ds0, p0, q0, e0, rfl, rfl, h0, hA⟩ := trodAll_cons hA
  obtain ⟨rfl, rfl, rfl⟩ := trodAll_nil hA
  obtain rfl : args = #[v0] := by cases args; simp_all
  obtain ⟨a0, k0, r0⟩ := arg_slice Try.underlying45 hval 0 rfl rfl rdStations (fun _ => rfl) h0
  exact law_contract laid (by rw [Try.params5]; decide +kernel) rfl
    (fun ds h => by rw [Try.params5] at h; match ds, h with | [_], _ => rfl) rfl Try.underlying4 hW0 (law_SightShiftsSpec a0 k0)
    (.cons r0 .nil)

set_option maxRecDepth 100000 in
theorem lifted (os : Os) (started : os.Started) (H : Type) (enc : TypeId × Value → H) :
    ReturnsInHanded {} Try.checked os 5 .any (Rows.sightShiftsSpecSpec.pre6 enc Try.prog Try.f5 Rows.sightShiftsSpecRow.domain false) (Rows.sightShiftsSpecSpec.post enc Try.prog Try.f5 false true false false) := by
  refine returnsInHanded_of_change (C := Try.checked) own started (by kernel_rfl) Try.func5
    (ChangeSpec.witness6 (enc := enc) (C := Try.checked) false ⟨#[], #[.slice none 0 0], []⟩ 8 (by kernel_rfl) (by kernel_rfl) (by kernel_rfl) (by kernel_rfl)) ?_
  intro W base args ds gs before hval hW _ _
  exact contract H enc W base args ds gs before hval hW
end SightShiftsSpecP

theorem sightShiftsSpec_holds : Rows.SightShiftsSpecSaid :=
  OpenClaim.holds_of_wide 5 Try.f5 rfl rfl rfl rfl rfl rfl rfl ⟨rfl, rfl, rfl, rfl, rfl⟩ rfl rfl rfl rfl rfl (by kernel_rfl) Try.func5 (by kernel_rfl)
    (of_decide_eq_true (by kernel_rfl)) (by unfold Func.isWrapper; first | (rw [if_pos (by decide +kernel)]; kernel_rfl) | (rw [if_neg (by decide +kernel)]; exact ⟨rfl, rfl⟩))
    (fun os started H enc _ => SightShiftsSpecP.lifted os started H enc)
end Go.Proofs.Ythofonhkpilifaa
