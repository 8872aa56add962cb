/-
  Short words for what a walk's tests say.
-/
import Derived.Test.YthofonhkpilifaaAbs21
import Derived.Test.YthofonhkpilifaaAbs22
namespace Go.Abs
open Go.RowKit

section
variable {A : Ops} {E : Env}
theorem nT (hA : A = stdOps E) (h : A.bNot true = true) : False := by subst hA; cases h
theorem nF (hA : A = stdOps E) (h : A.bNot false = false) : False := by subst hA; cases h
theorem notT (hA : A = stdOps E) {b : Bool} (h : A.bNot b = true) : b = false := by subst hA; simpa [stdOps] using h
theorem notF (hA : A = stdOps E) {b : Bool} (h : A.bNot b = false) : b = true := by subst hA; simpa [stdOps] using h
theorem ltT (hA : A = stdOps E) {a b : Int} (h : A.iLt a b = true) : a < b := by subst hA; simpa [stdOps] using h
theorem ltF (hA : A = stdOps E) {a b : Int} (h : A.iLt a b = false) : b ≤ a := by subst hA; simp [stdOps] at h; omega
theorem leT (hA : A = stdOps E) {a b : Int} (h : A.iLe a b = true) : a ≤ b := by subst hA; simpa [stdOps] using h
theorem leF (hA : A = stdOps E) {a b : Int} (h : A.iLe a b = false) : b < a := by subst hA; simp [stdOps] at h; omega
theorem eqT (hA : A = stdOps E) {a b : Int} (h : A.iEq a b = true) : a = b := by subst hA; simpa [stdOps] using h
theorem eqF (hA : A = stdOps E) {a b : Int} (h : A.iEq a b = false) : a ≠ b := by subst hA; simpa [stdOps] using h
theorem neT (hA : A = stdOps E) {a b : Int} (h : A.bNot (A.iEq a b) = true) : a ≠ b := eqF hA (notT hA h)
theorem neF (hA : A = stdOps E) {a b : Int} (h : A.bNot (A.iEq a b) = false) : a = b := eqT hA (notF hA h)
theorem ltT' (hA : A = stdOps E) {a b a' b' : Int} (ha : a = a') (hb : b = b') (h : A.iLt a b = true) : a' < b' := by subst ha hb; exact ltT hA h
theorem ltF' (hA : A = stdOps E) {a b a' b' : Int} (ha : a = a') (hb : b = b') (h : A.iLt a b = false) : b' ≤ a' := by subst ha hb; exact ltF hA h
theorem leT' (hA : A = stdOps E) {a b a' b' : Int} (ha : a = a') (hb : b = b') (h : A.iLe a b = true) : a' ≤ b' := by subst ha hb; exact leT hA h
theorem leF' (hA : A = stdOps E) {a b a' b' : Int} (ha : a = a') (hb : b = b') (h : A.iLe a b = false) : b' < a' := by subst ha hb; exact leF hA h
theorem eqT' (hA : A = stdOps E) {a b a' b' : Int} (ha : a = a') (hb : b = b') (h : A.iEq a b = true) : a' = b' := by subst ha hb; exact eqT hA h
theorem eqF' (hA : A = stdOps E) {a b a' b' : Int} (ha : a = a') (hb : b = b') (h : A.iEq a b = false) : a' ≠ b' := by subst ha hb; exact eqF hA h
theorem neT' (hA : A = stdOps E) {a b a' b' : Int} (ha : a = a') (hb : b = b') (h : A.bNot (A.iEq a b) = true) : a' ≠ b' := by subst ha hb; exact neT hA h
theorem neF' (hA : A = stdOps E) {a b a' b' : Int} (ha : a = a') (hb : b = b') (h : A.bNot (A.iEq a b) = false) : a' = b' := by subst ha hb; exact neF hA h
theorem addI (hA : A = stdOps E) (a b : Int) : A.iAdd a b = a + b := by subst hA; rfl
theorem subI (hA : A = stdOps E) (a b : Int) : A.iSub a b = a - b := by subst hA; rfl
theorem mulI (hA : A = stdOps E) (a b : Int) : A.iMul a b = a * b := by subst hA; rfl
theorem lenI (hA : A = stdOps E) {xs : List PV} {n : Nat} (h : xs.length = n) : A.lLen xs = (n : Int) := by subst hA; subst h; rfl
theorem natI (hA : A = stdOps E) (n : Nat) : A.iNat n = (n : Int) := by subst hA; rfl
theorem natN (hA : A = stdOps E) (n : Int) : A.nNat n = n.toNat := by subst hA; rfl
theorem natNat (hA : A = stdOps E) {n : Int} (h : 0 ≤ n) : A.iNat (A.nNat n) = n := by subst hA; exact Int.toNat_of_nonneg h
theorem inRI (hA : A = stdOps E) {a : Int} (h : inI64 a) : A.inR a := by subst hA; exact h
theorem inR' (hA : A = stdOps E) {a b : Int} (e : a = b) (h : inI64 b) : A.inR a := by subst hA; subst e; exact h
theorem withI (hA : A = stdOps E) {a b c : Int} (e : b = c) (h0 : 0 ≤ a) (h : a < c) : A.within a b := by subst hA; subst e; exact ⟨h0, h⟩
end

theorem leS_refl (s : SV) : leS s s := (leL_refl [s]).1
theorem leL_same {s : SV} {l l' : List SV} (h : leL l l') : leL (s :: l) (s :: l') := ⟨leS_refl s, h⟩
theorem leL_any {s : SV} {l l' : List SV} (h : leL l l') : leL (s :: l) (SV.val .any :: l') := ⟨trivial, h⟩
theorem leL_own {t m : Nat} {xs : List PV} {l l' : List SV} (h : leL l l') : leL (.own t m xs :: l) (SV.val (.list m xs) :: l') := ⟨.inr (.inl rfl), h⟩
theorem leL_lit {m : Nat} {xs : List PV} {l l' : List SV} (h : leL l l') : leL (.lit m xs :: l) (SV.val (.list m xs) :: l') := ⟨.inr (.inl rfl), h⟩
theorem leL_nil : leL [] [] := trivial
end Go.Abs
