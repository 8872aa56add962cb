/-
  Functions: sight's small ones.
  Functions: sight's stays of one volume, and whether a report is right.
-/
import Derived.Test.YtjiimmaikohliaaGreatF2
import Derived.Test.YtjiimmaikohliaaGreatS1
set_option linter.unusedVariables false
set_option linter.unusedSimpArgs false
namespace Go.Abs
open Go.RowKit Go.Proofs

def isShiftB (n : Int) : Bool := inB n (-3) 3
def isMinuteB (n : Int) : Bool := inB n 0 1439

/-- A report that is none. -/
def repBad (many : Int) (r : Report) : Bool := !inB r.Station 0 (many - 1) || !isMinuteB r.Minute

def shiftBad (x : Station) : Bool := !inB x.Shift 0 3

end Go.Abs

namespace Go.Abs
open Go.RowKit Go.Proofs

theorem Real.ptr {cs : List PV} {off : Nat} (h : Real [.ptr cs off]) {c : PV} (hc : c ∈ cs) : Real [c] := by
  obtain ⟨S, w, vs, hS, hl, hv⟩ := h
  match vs, hl with
  | [v], _ =>
    have hr := hv 0 _ v rfl rfl
    obtain ⟨j, hj⟩ := List.getElem?_of_mem hc
    cases hr with
    | ptr _ _ ad g h1 h2 => exact ⟨S, w, [g j], hS, RVs.cons (h2 j c hj) RVs.nil⟩

def ofVol (v : Int) (s : Stay) : Bool := !s.Airport && decide (s.Index = v)
def overRows (v : Int) (l : List Stay) : List (List PV) := (l.filter (ofVol v)).map fun s => [encSpan s.Minutes]

/-- A report is right for one of some stays. -/
def rightB (r : Report) (shift : Int) (l : List Stay) : Bool := l.any fun s => ofVol r.Volume s && (decide (s.Minutes.From ≤ r.Minute + shift) && decide (r.Minute + shift < s.Minutes.To))

end Go.Abs
