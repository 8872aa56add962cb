/-
  What sight's functions come to, in plain words.
-/
import Derived.Test.YtbljnbpddboohaaGreatS1
set_option linter.unusedVariables false
set_option linter.unusedSimpArgs false
namespace Go.Abs

/-- Minutes, one after the other. -/
def timesFrom : Int → List Int → Bool
  | _, [] => true
  | p, t :: r => decide (0 ≤ t) && decide (t ≤ 65535) && decide (p < t) && timesFrom t r
def pathOk (ws : List Way) (p : Path) : Bool :=
  match (if 0 ≤ p.Way then ws[p.Way.toNat]? else none) with
  | none => false
  | some w => decide (p.Times.length = w.Legs.length + 1) && timesFrom (-1) p.Times

/-- The stays on the legs of a path. -/
def legStays : List Leg → List Int → List Stay
  | x :: r, a :: b :: ts => ⟨false, x.Volume, ⟨a, b⟩⟩ :: legStays r (b :: ts)
  | _, _ => []
def staysOf (w : Way) (ts : List Int) : List Stay :=
  ⟨true, w.From, ⟨ts.headD 0, ts.headD 0 + 1⟩⟩ :: legStays w.Legs ts ++ [⟨true, w.To, ⟨ts.getLastD 0, ts.getLastD 0 + 1⟩⟩]

theorem air_legs {t : Tables} (h : airOk t = true) {w : Way} (hw : w ∈ t.Ways) : w.Legs.length ≤ 8 ∧ 1 ≤ w.Legs.length := by
  unfold airOk at h
  simp only [Bool.and_eq_true, List.all_eq_true] at h
  have := h.1.1.2 w hw
  simp only [wayOk, inB, Bool.and_eq_true, decide_eq_true_eq] at this
  omega

end Go.Abs
