/-
  The program's plain types: what their reading comes to; arguments.
-/
import Derived.Test.YtbljnbpddboohaaGreatG1
import Derived.Test.YtbljnbpddboohaaGreatD1
import Derived.Test.YtbljnbpddboohaaGreatProg
import Derived.KernelRfl
set_option linter.unusedVariables false
set_option linter.unusedSimpArgs false
namespace Go.Abs
open Go.RowKit Go.Proofs

def okI (n : Int) : Prop := (Lit.int .i64 n).wf = true
def okIs (l : List Int) : Prop := ∀ x ∈ l, okI x
def okS (s : ByteArray) : Prop := s.size ≤ maxLen
def okSs (l : List ByteArray) : Prop := ∀ x ∈ l, okS x
def okSpan (s : Span) : Prop := okI s.From ∧ okI s.To ∧ True
def okSector (s : Sector) : Prop := okS s.Name ∧ okSs s.Names ∧ okIs s.Volumes ∧ okI s.Radar ∧ okI s.Procedural ∧ True
def okConfig (s : Config) : Prop := okS s.Name ∧ okSs s.Names ∧ okIs s.Sectors ∧ True
def okLeg (s : Leg) : Prop := okI s.Segment ∧ okI s.Volume ∧ okI s.Length ∧ (∀ x ∈ s.Minutes, okSpan x) ∧ True
def okWay (s : Way) : Prop := okI s.From ∧ okI s.To ∧ (∀ x ∈ s.Legs, okLeg x) ∧ True
def okKind (s : Kind) : Prop := okI s.Slow ∧ okI s.Fast ∧ okI s.Places ∧ okI s.Weight ∧ okI s.Longest ∧ (∀ x ∈ s.Curfews, ∀ y ∈ x, okSpan y) ∧ True
def okTables (t : Tables) : Prop := okI t.Volumes ∧ (∀ x ∈ t.Sectors, okSector x) ∧ (∀ x ∈ t.Configs, okConfig x) ∧ (∀ x ∈ t.Ways, okWay x) ∧ (∀ x ∈ t.Modes, okIs x) ∧ (∀ x ∈ t.Kinds, okKind x) ∧ True
def okStation (s : Station) : Prop := okIs s.Volumes ∧ okI s.Shift ∧ okI s.Faults ∧ True
def okReport (s : Report) : Prop := okI s.Station ∧ okI s.No ∧ okI s.Minute ∧ okI s.Arrived ∧ okS s.Call ∧ okI s.Volume ∧ True
def okPath (s : Path) : Prop := okI s.Way ∧ okIs s.Times ∧ True

theorem rdInt : Rd Tryz.prog 3 encInt okI := rd_int Tryz.underlying3
theorem rdStr : Rd Tryz.prog 9 encStr okS := rd_str Tryz.underlying9
theorem rdInts : Rd Tryz.prog 29 encIntL okIs := rd_slice Tryz.underlying29 (by kernel_rfl) (by decide) rdInt
theorem rdIntLs : Rd Tryz.prog 25 (fun l => .list 1 (encIntLs l)) fun l => ∀ x ∈ l, okIs x := rd_slice Tryz.underlying25 (by kernel_rfl) (by decide) rdInts
theorem rdStrs : Rd Tryz.prog 87 (fun l => .list 1 (encStrs l)) okSs := rd_slice Tryz.underlying87 (by kernel_rfl) (by decide) rdStr
theorem rdSpan : Rd Tryz.prog 31 encSpan okSpan :=
  rd_struct Tryz.underlying31 (by kernel_rfl) (rdL_cons rdInt (rdL_cons rdInt rdL_nil)) fun ⟨a, b, ()⟩ h => ⟨⟨a, b⟩, h, rfl⟩
theorem rdSpans : Rd Tryz.prog 56 encSpanL fun l => ∀ x ∈ l, okSpan x := rd_slice Tryz.underlying56 (by kernel_rfl) (by decide) rdSpan
theorem rdSpanLs : Rd Tryz.prog 59 (fun l => .list 1 (encSpanLs l)) fun l => ∀ x ∈ l, ∀ y ∈ x, okSpan y := rd_slice Tryz.underlying59 (by kernel_rfl) (by decide) rdSpans
theorem rdSector : Rd Tryz.prog 89 encSector okSector :=
  rd_struct Tryz.underlying89 (by kernel_rfl) (rdL_cons rdStr (rdL_cons rdStrs (rdL_cons rdInts (rdL_cons rdInt (rdL_cons rdInt rdL_nil))))) fun ⟨a, b, c, d, e, ()⟩ h => ⟨⟨a, b, c, d, e⟩, h, rfl⟩
theorem rdSectors : Rd Tryz.prog 22 (fun l => .list 5 (encSectors l)) fun l => ∀ x ∈ l, okSector x := rd_slice Tryz.underlying22 (by kernel_rfl) (by decide) rdSector
theorem rdConfig : Rd Tryz.prog 91 encConfig okConfig :=
  rd_struct Tryz.underlying91 (by kernel_rfl) (rdL_cons rdStr (rdL_cons rdStrs (rdL_cons rdInts rdL_nil))) fun ⟨a, b, c, ()⟩ h => ⟨⟨a, b, c⟩, h, rfl⟩
theorem rdConfigs : Rd Tryz.prog 23 (fun l => .list 3 (encConfigs l)) fun l => ∀ x ∈ l, okConfig x := rd_slice Tryz.underlying23 (by kernel_rfl) (by decide) rdConfig
theorem rdLeg : Rd Tryz.prog 58 encLeg okLeg :=
  rd_struct Tryz.underlying58 (by kernel_rfl) (rdL_cons rdInt (rdL_cons rdInt (rdL_cons rdInt (rdL_cons rdSpans rdL_nil)))) fun ⟨a, b, c, d, ()⟩ h => ⟨⟨a, b, c, d⟩, h, rfl⟩
theorem rdLegs : Rd Tryz.prog 53 (fun l => .list 4 (encLegs l)) fun l => ∀ x ∈ l, okLeg x := rd_slice Tryz.underlying53 (by kernel_rfl) (by decide) rdLeg
theorem rdWay : Rd Tryz.prog 55 encWay okWay :=
  rd_struct Tryz.underlying55 (by kernel_rfl) (rdL_cons rdInt (rdL_cons rdInt (rdL_cons rdLegs rdL_nil))) fun ⟨a, b, c, ()⟩ h => ⟨⟨a, b, c⟩, h, rfl⟩
theorem rdWays : Rd Tryz.prog 24 (fun l => .list 3 (encWays l)) fun l => ∀ x ∈ l, okWay x := rd_slice Tryz.underlying24 (by kernel_rfl) (by decide) rdWay
theorem rdKind : Rd Tryz.prog 61 encKind okKind :=
  rd_struct Tryz.underlying61 (by kernel_rfl) (rdL_cons rdInt (rdL_cons rdInt (rdL_cons rdInt (rdL_cons rdInt (rdL_cons rdInt (rdL_cons rdSpanLs rdL_nil)))))) fun ⟨a, b, c, d, e, f, ()⟩ h => ⟨⟨a, b, c, d, e, f⟩, h, rfl⟩
theorem rdKinds : Rd Tryz.prog 26 (fun l => .list 6 (encKinds l)) fun l => ∀ x ∈ l, okKind x := rd_slice Tryz.underlying26 (by kernel_rfl) (by decide) rdKind
theorem rdTables : Rd Tryz.prog 28 encTables okTables :=
  rd_struct Tryz.underlying28 (by kernel_rfl) (rdL_cons rdInt (rdL_cons rdSectors (rdL_cons rdConfigs (rdL_cons rdWays (rdL_cons rdIntLs (rdL_cons rdKinds rdL_nil)))))) fun ⟨a, b, c, d, e, f, ()⟩ h => ⟨⟨a, b, c, d, e, f⟩, h, rfl⟩
end Go.Abs
