/-
  Readers: flights, options.
-/
import Derived.Test.YtbljnbpddboohaaGreatG2
set_option linter.unusedVariables false
set_option linter.unusedSimpArgs false
namespace Go.Abs
open Go.RowKit Go.Proofs

def encBool (b : Bool) : PV := .bool b
def okFlight (f : Flight) : Prop := okI f.ID ∧ okI f.Airline ∧ okI f.Class ∧ okS f.Call ∧ okIs f.Ways ∧ okSpan f.Window ∧ True ∧ True
def okOpt (o : Opt) : Prop := okI o.Delay ∧ okI o.Way ∧ okI o.Hold ∧ True ∧ True
theorem rdBool : Rd Tryz.prog 4 encBool fun _ => True := rd_bool Tryz.underlying4
theorem rdFlight : Rd Tryz.prog 33 encFlight okFlight :=
  rd_struct Tryz.underlying33 (by kernel_rfl) (rdL_cons rdInt (rdL_cons rdInt (rdL_cons rdInt (rdL_cons rdStr (rdL_cons rdInts (rdL_cons rdSpan (rdL_cons rdBool rdL_nil))))))) fun ⟨a, b, c, d, e, f, g, ()⟩ h => ⟨⟨a, b, c, d, e, f, g⟩, h, rfl⟩
theorem rdOpt : Rd Tryz.prog 42 encOpt okOpt :=
  rd_struct Tryz.underlying42 (by kernel_rfl) (rdL_cons rdInt (rdL_cons rdInt (rdL_cons rdInt (rdL_cons rdBool rdL_nil)))) fun ⟨a, b, c, d, ()⟩ h => ⟨⟨a, b, c, d⟩, h, rfl⟩
theorem rdOpts : Rd Tryz.prog 43 (fun l => .list 4 (encOpts l)) fun l => ∀ x ∈ l, okOpt x := rd_slice Tryz.underlying43 (by kernel_rfl) (by decide) rdOpt
end Go.Abs
