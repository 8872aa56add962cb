/-
  What the program's checks come to, in plain words: hours, speeds, divisions, airspaces.
-/
import Derived.Test.YtbljnbpddboohaaGreatD1
set_option linter.unusedVariables false
set_option linter.unusedSimpArgs false
namespace Go.Abs

def inB (n lo hi : Int) : Bool := decide (lo ≤ n) && decide (n ≤ hi)
def spanBad (s : Span) : Bool := decide (s.From < 0) || decide (s.To ≤ s.From) || decide (1440 < s.To)
def hoursOk (l : List Span) : Bool := !l.any spanBad

/-- Each three numbers: one, and its bounds. -/
def withinL : List Int → Bool
  | a :: b :: c :: r => !(decide (a < b) || decide (c < a)) && withinL r
  | _ => true

def kindOk (k : Kind) : Bool :=
  withinL [k.Slow, 1, 64, k.Fast, k.Slow, 64, k.Places, 1, 8, k.Weight, 1, 8, k.Longest, 0, 60, (k.Curfews.length : Int), 0, 16] && decide (k.Longest.tmod 10 = 0) && !k.Curfews.any (fun l => !hoursOk l)

/-- The set of some volumes, a bit for each. -/
def bitsOf : List Int → Nat
  | [] => 0
  | v :: r => 2 ^ v.toNat ||| bitsOf r
def bitsFrom (x : Nat) (l : List Int) : Nat := l.foldl (fun x v => x ||| 2 ^ v.toNat) x
/-- Different indices below a bound. -/
def indexed (n : Nat) : Nat → List Int → Bool
  | _, [] => true
  | x, v :: r => decide (0 ≤ v) && decide (v < n) && decide (x &&& 2 ^ v.toNat = 0) && indexed n (x ||| 2 ^ v.toNat) r
def sectorIx (n : Nat) (s : Sector) : Bool := indexed n 0 s.Volumes && decide (bitsFrom 0 s.Volumes ≠ 0)
/-- Sectors that do not meet. -/
def apartB (l : List Nat) : Nat → List Int → Bool
  | _, [] => true
  | x, s :: r => decide (0 ≤ s) && decide (s < l.length) && decide (x &&& l.getD s.toNat 0 = 0) && apartB l (x ||| l.getD s.toNat 0) r
def joined (l : List Nat) (x : Nat) (c : List Int) : Nat := c.foldl (fun x s => x ||| l.getD s.toNat 0) x
def secBits (l : List Sector) : List Nat := l.map fun s => bitsFrom 0 s.Volumes
def configOk (n : Nat) (l : List Nat) (c : Config) : Bool := apartB l 0 c.Sectors && decide (joined l 0 c.Sectors = 2 ^ n - 1)
def divOk (n : Nat) (ss : List Sector) (cs : List Config) : Bool :=
  decide (1 ≤ n) && decide (n ≤ 64) && decide (ss.length ≤ 64) && decide (1 ≤ cs.length) && decide (cs.length ≤ 32) && ss.all (sectorIx n) && cs.all (configOk n (secBits ss))

def sectorOk (s : Sector) : Bool := inB s.Radar 0 64 && inB s.Procedural 0 s.Radar
def modeOk (l : List Int) : Bool := inB l.length 1 16 && l.all fun n => inB n 0 64
def legOk (nv : Int) (x : Leg) : Bool := inB x.Segment 0 127 && inB x.Volume 0 (nv - 1) && inB x.Length 1 4096 && decide (0 < x.Minutes.length) && hoursOk x.Minutes
def wayOk (nv nm : Int) (w : Way) : Bool := inB w.From 0 (nm - 1) && inB w.To 0 (nm - 1) && inB w.Legs.length 1 8 && w.Legs.all (legOk nv)
def airOk (t : Tables) : Bool :=
  inB t.Volumes 1 64 && divOk t.Volumes.toNat t.Sectors t.Configs && t.Sectors.all sectorOk && decide (t.Modes.length ≤ 16) && t.Modes.all modeOk && decide (t.Ways.length ≤ 64) && t.Ways.all (wayOk t.Volumes t.Modes.length) &&
    decide (t.Kinds.length ≤ 8) && t.Kinds.all fun k => kindOk k && decide (k.Curfews.length = t.Modes.length)
end Go.Abs
