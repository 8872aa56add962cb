/-
  Functions: sight's small ones.
-/
import Derived.Test.YthofonhkpilifaaF2
namespace Go.Abs
open Go.RowKit Go.Proofs

theorem sight_within (n lo hi : Int) : CallsPV Try.prog 30 [.int .i64 n, .int .i64 lo, .int .i64 hi] (.bool (inB n lo hi)) := by
  refine callsPV_by (clo := fun _ => false) (rows := false) env_ok Try.func30 rfl (enters_of Try.func30 (by kernel_rfl) rfl) (fun A q P Y hr hA hq => ?_)
  conv => cbv
  split <;> (rename_i h; conv => cbv) <;> (subst hA; subst hq; simp_all [stdOps, inB]; try omega)

def isShiftB (n : Int) : Bool := inB n (-3) 3
def isMinuteB (n : Int) : Bool := inB n 0 1439

theorem sight_isShift (n : Int) : CallsPV Try.prog 21 [.int .i64 n] (.bool (isShiftB n)) := by
  refine callsPV_by (clo := fun _ => false) (rows := false) env_ok Try.func21 rfl (enters_of Try.func21 (by kernel_rfl) rfl) (fun A q P Y hr hA hq => ?_)
  conv => cbv
  refine callB hA (sight_within n (-3) 3) rfl (fun r hr => ?_)
  conv => cbv
  rw [← hq, hr]; rfl

theorem sight_isMinute (n : Int) : CallsPV Try.prog 22 [.int .i64 n] (.bool (isMinuteB n)) := by
  refine callsPV_by (clo := fun _ => false) (rows := false) env_ok Try.func22 rfl (enters_of Try.func22 (by kernel_rfl) rfl) (fun A q P Y hr hA hq => ?_)
  conv => cbv
  refine callB hA (sight_within n 0 1439) rfl (fun r hr => ?_)
  conv => cbv
  rw [← hq, hr]; rfl

/-- A report that is none. -/
def repBad (many : Int) (r : Report) : Bool := !inB r.Station 0 (many - 1) || !isMinuteB r.Minute

theorem sight_Wrong1 (many : Int) (hm : -9223372036854775808 < many ∧ many ≤ 9223372036854775807) (x : Report) : CallsPV Try.prog 29 [encReport x, .ptr [.int .i64 many] 0] (.bool (repBad many x)) := by
  refine callsPV_by (clo := fun _ => false) (rows := false) env_ok Try.func29 rfl (enters_of Try.func29 (by kernel_rfl) rfl) (fun A q P Y hr hA hq => ?_)
  obtain ⟨a, b, c, d, e, f⟩ := x
  conv => cbv
  refine ⟨by subst hA; show inI64 (many - 1); unfold inI64; omega, callB hA (sight_within a 0 (many - 1)) (by subst hA; rfl) (fun r hr => ?_)⟩
  conv => cbv
  split <;> (rename_i h; conv => cbv)
  · have t : A.bNot r = true := h
    rw [← hq]; subst hA; simp_all [stdOps, repBad]
  · have t : A.bNot r = false := h
    refine callB hA (sight_isMinute c) rfl (fun r2 hr2 => ?_)
    conv => cbv
    rw [← hq]
    subst hA
    simp_all [stdOps, repBad]

theorem sight_Wrong2 (n : Int) : CallsPV Try.prog 32 [.int .i64 n] (.bool (!isShiftB n)) := by
  refine callsPV_by (clo := fun _ => false) (rows := false) env_ok Try.func32 rfl (enters_of Try.func32 (by kernel_rfl) rfl) (fun A q P Y hr hA hq => ?_)
  conv => cbv
  refine callB hA (sight_isShift n) rfl (fun r hr => ?_)
  conv => cbv
  rw [← hq, hr]; subst hA; rfl

def shiftBad (x : Station) : Bool := !inB x.Shift 0 3

theorem sight_Shifts1 (x : Station) : CallsPV Try.prog 35 [encStation x] (.bool (shiftBad x)) := by
  refine callsPV_by (clo := fun _ => false) (rows := false) env_ok Try.func35 rfl (enters_of Try.func35 (by kernel_rfl) rfl) (fun A q P Y hr hA hq => ?_)
  obtain ⟨a, b, c⟩ := x
  rw [show encStation ⟨a, b, c⟩ = .agg [.list 1 (encInts a), .int .i64 b, .int .i64 c] from rfl]
  generalize encInts a = u
  conv => cbv
  refine callB hA (sight_within b 0 3) rfl (fun r hr => ?_)
  conv => cbv
  rw [← hq, hr]; subst hA; rfl

end Go.Abs
