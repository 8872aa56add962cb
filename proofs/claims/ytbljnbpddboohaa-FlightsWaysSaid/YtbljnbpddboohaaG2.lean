/-
  The program's plain types: what their reading comes to; arguments.
-/
import Derived.Test.YtbljnbpddboohaaG1
import Derived.Test.YtbljnbpddboohaaD1
import Derived.Test.YtbljnbpddboohaaProg
import Derived.KernelRfl
set_option linter.unusedVariables false
set_option linter.unusedSimpArgs false
namespace Go.Abs
open Go.RowKit Go.Proofs

def okI (n : Int) : Prop := (Lit.int .i64 n).wf = true
def okIs (l : List Int) : Prop := ∀ x ∈ l, okI x
def okS (s : ByteArray) : Prop := s.size ≤ maxLen
def okSs (l : List ByteArray) : Prop := ∀ x ∈ l, okS x
def okSpan (s : Span) : Prop := okI s.From ∧ okI s.To ∧ True
def okSector (s : Sector) : Prop := okS s.Name ∧ okSs s.Names ∧ okIs s.Volumes ∧ okI s.Radar ∧ okI s.Procedural ∧ True
def okConfig (s : Config) : Prop := okS s.Name ∧ okSs s.Names ∧ okIs s.Sectors ∧ True
def okLeg (s : Leg) : Prop := okI s.Segment ∧ okI s.Volume ∧ okI s.Length ∧ (∀ x ∈ s.Minutes, okSpan x) ∧ True
def okWay (s : Way) : Prop := okI s.From ∧ okI s.To ∧ (∀ x ∈ s.Legs, okLeg x) ∧ True
def okKind (s : Kind) : Prop := okI s.Slow ∧ okI s.Fast ∧ okI s.Places ∧ okI s.Weight ∧ okI s.Longest ∧ (∀ x ∈ s.Curfews, ∀ y ∈ x, okSpan y) ∧ True
def okTables (t : Tables) : Prop := okI t.Volumes ∧ (∀ x ∈ t.Sectors, okSector x) ∧ (∀ x ∈ t.Configs, okConfig x) ∧ (∀ x ∈ t.Ways, okWay x) ∧ (∀ x ∈ t.Modes, okIs x) ∧ (∀ x ∈ t.Kinds, okKind x) ∧ True
def okStation (s : Station) : Prop := okIs s.Volumes ∧ okI s.Shift ∧ okI s.Faults ∧ True
def okReport (s : Report) : Prop := okI s.Station ∧ okI s.No ∧ okI s.Minute ∧ okI s.Arrived ∧ okS s.Call ∧ okI s.Volume ∧ True
def okPath (s : Path) : Prop := okI s.Way ∧ okIs s.Times ∧ True

theorem rdInt : Rd Try.prog 3 encInt okI := rd_int Try.underlying3
theorem rdStr : Rd Try.prog 9 encStr okS := rd_str Try.underlying9
theorem rdInts : Rd Try.prog 29 encIntL okIs := rd_slice Try.underlying29 (by kernel_rfl) (by decide) rdInt
theorem rdIntLs : Rd Try.prog 25 (fun l => .list 1 (encIntLs l)) fun l => ∀ x ∈ l, okIs x := rd_slice Try.underlying25 (by kernel_rfl) (by decide) rdInts
theorem rdStrs : Rd Try.prog 89 (fun l => .list 1 (encStrs l)) okSs := rd_slice Try.underlying89 (by kernel_rfl) (by decide) rdStr
theorem rdSpan : Rd Try.prog 31 encSpan okSpan :=
  rd_struct Try.underlying31 (by kernel_rfl) (rdL_cons rdInt (rdL_cons rdInt rdL_nil)) fun ⟨a, b, ()⟩ h => ⟨⟨a, b⟩, h, rfl⟩
theorem rdSpans : Rd Try.prog 62 encSpanL fun l => ∀ x ∈ l, okSpan x := rd_slice Try.underlying62 (by kernel_rfl) (by decide) rdSpan
theorem rdSpanLs : Rd Try.prog 48 (fun l => .list 1 (encSpanLs l)) fun l => ∀ x ∈ l, ∀ y ∈ x, okSpan y := rd_slice Try.underlying48 (by kernel_rfl) (by decide) rdSpans
theorem rdSector : Rd Try.prog 91 encSector okSector :=
  rd_struct Try.underlying91 (by kernel_rfl) (rdL_cons rdStr (rdL_cons rdStrs (rdL_cons rdInts (rdL_cons rdInt (rdL_cons rdInt rdL_nil))))) fun ⟨a, b, c, d, e, ()⟩ h => ⟨⟨a, b, c, d, e⟩, h, rfl⟩
theorem rdSectors : Rd Try.prog 22 (fun l => .list 5 (encSectors l)) fun l => ∀ x ∈ l, okSector x := rd_slice Try.underlying22 (by kernel_rfl) (by decide) rdSector
theorem rdConfig : Rd Try.prog 108 encConfig okConfig :=
  rd_struct Try.underlying108 (by kernel_rfl) (rdL_cons rdStr (rdL_cons rdStrs (rdL_cons rdInts rdL_nil))) fun ⟨a, b, c, ()⟩ h => ⟨⟨a, b, c⟩, h, rfl⟩
theorem rdConfigs : Rd Try.prog 23 (fun l => .list 3 (encConfigs l)) fun l => ∀ x ∈ l, okConfig x := rd_slice Try.underlying23 (by kernel_rfl) (by decide) rdConfig
theorem rdLeg : Rd Try.prog 64 encLeg okLeg :=
  rd_struct Try.underlying64 (by kernel_rfl) (rdL_cons rdInt (rdL_cons rdInt (rdL_cons rdInt (rdL_cons rdSpans rdL_nil)))) fun ⟨a, b, c, d, ()⟩ h => ⟨⟨a, b, c, d⟩, h, rfl⟩
theorem rdLegs : Rd Try.prog 55 (fun l => .list 4 (encLegs l)) fun l => ∀ x ∈ l, okLeg x := rd_slice Try.underlying55 (by kernel_rfl) (by decide) rdLeg
theorem rdWay : Rd Try.prog 57 encWay okWay :=
  rd_struct Try.underlying57 (by kernel_rfl) (rdL_cons rdInt (rdL_cons rdInt (rdL_cons rdLegs rdL_nil))) fun ⟨a, b, c, ()⟩ h => ⟨⟨a, b, c⟩, h, rfl⟩
theorem rdWays : Rd Try.prog 24 (fun l => .list 3 (encWays l)) fun l => ∀ x ∈ l, okWay x := rd_slice Try.underlying24 (by kernel_rfl) (by decide) rdWay
theorem rdKind : Rd Try.prog 50 encKind okKind :=
  rd_struct Try.underlying50 (by kernel_rfl) (rdL_cons rdInt (rdL_cons rdInt (rdL_cons rdInt (rdL_cons rdInt (rdL_cons rdInt (rdL_cons rdSpanLs rdL_nil)))))) fun ⟨a, b, c, d, e, f, ()⟩ h => ⟨⟨a, b, c, d, e, f⟩, h, rfl⟩
theorem rdKinds : Rd Try.prog 26 (fun l => .list 6 (encKinds l)) fun l => ∀ x ∈ l, okKind x := rd_slice Try.underlying26 (by kernel_rfl) (by decide) rdKind
theorem rdTables : Rd Try.prog 28 encTables okTables :=
  rd_struct Try.underlying28 (by kernel_rfl) (rdL_cons rdInt (rdL_cons rdSectors (rdL_cons rdConfigs (rdL_cons rdWays (rdL_cons rdIntLs (rdL_cons rdKinds rdL_nil)))))) fun ⟨a, b, c, d, e, f, ()⟩ h => ⟨⟨a, b, c, d, e, f⟩, h, rfl⟩
end Go.Abs
