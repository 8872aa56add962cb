/-
  Short words for what a walk's tests say.
-/
import Derived.Test.YtbljnbpddboohaaGreatA4
import Derived.Test.YtbljnbpddboohaaGreatA3
set_option linter.unusedVariables false
set_option linter.unusedSimpArgs false
namespace Go.Abs
open Go.RowKit

section
variable {A : Ops} {E : Env}
theorem nT (hA : A = stdOps E) (h : A.bNot true = true) : False := by subst hA; cases h
theorem nF (hA : A = stdOps E) (h : A.bNot false = false) : False := by subst hA; cases h
theorem notT (hA : A = stdOps E) {b : Bool} (h : A.bNot b = true) : b = false := by subst hA; simpa [stdOps] using h
theorem notF (hA : A = stdOps E) {b : Bool} (h : A.bNot b = false) : b = true := by subst hA; simpa [stdOps] using h
theorem ltT (hA : A = stdOps E) {a b : Int} (h : A.iLt a b = true) : a < b := by subst hA; simpa [stdOps] using h
theorem ltF (hA : A = stdOps E) {a b : Int} (h : A.iLt a b = false) : b ≤ a := by subst hA; simp [stdOps] at h; omega
theorem leT (hA : A = stdOps E) {a b : Int} (h : A.iLe a b = true) : a ≤ b := by subst hA; simpa [stdOps] using h
theorem leF (hA : A = stdOps E) {a b : Int} (h : A.iLe a b = false) : b < a := by subst hA; simp [stdOps] at h; omega
theorem eqT (hA : A = stdOps E) {a b : Int} (h : A.iEq a b = true) : a = b := by subst hA; simpa [stdOps] using h
theorem eqF (hA : A = stdOps E) {a b : Int} (h : A.iEq a b = false) : a ≠ b := by subst hA; simpa [stdOps] using h
theorem neT (hA : A = stdOps E) {a b : Int} (h : A.bNot (A.iEq a b) = true) : a ≠ b := eqF hA (notT hA h)
theorem neF (hA : A = stdOps E) {a b : Int} (h : A.bNot (A.iEq a b) = false) : a = b := eqT hA (notF hA h)
theorem ltT' (hA : A = stdOps E) {a b a' b' : Int} (ha : a = a') (hb : b = b') (h : A.iLt a b = true) : a' < b' := by subst ha hb; exact ltT hA h
theorem ltF' (hA : A = stdOps E) {a b a' b' : Int} (ha : a = a') (hb : b = b') (h : A.iLt a b = false) : b' ≤ a' := by subst ha hb; exact ltF hA h
theorem leT' (hA : A = stdOps E) {a b a' b' : Int} (ha : a = a') (hb : b = b') (h : A.iLe a b = true) : a' ≤ b' := by subst ha hb; exact leT hA h
theorem leF' (hA : A = stdOps E) {a b a' b' : Int} (ha : a = a') (hb : b = b') (h : A.iLe a b = false) : b' < a' := by subst ha hb; exact leF hA h
theorem eqT' (hA : A = stdOps E) {a b a' b' : Int} (ha : a = a') (hb : b = b') (h : A.iEq a b = true) : a' = b' := by subst ha hb; exact eqT hA h
theorem eqF' (hA : A = stdOps E) {a b a' b' : Int} (ha : a = a') (hb : b = b') (h : A.iEq a b = false) : a' ≠ b' := by subst ha hb; exact eqF hA h
theorem neT' (hA : A = stdOps E) {a b a' b' : Int} (ha : a = a') (hb : b = b') (h : A.bNot (A.iEq a b) = true) : a' ≠ b' := by subst ha hb; exact neT hA h
theorem neF' (hA : A = stdOps E) {a b a' b' : Int} (ha : a = a') (hb : b = b') (h : A.bNot (A.iEq a b) = false) : a' = b' := by subst ha hb; exact neF hA h
theorem beqT (hA : A = stdOps E) {a b : Bool} (h : A.bEq a b = true) : a = b := by subst hA; simpa [stdOps] using h
theorem beqF (hA : A = stdOps E) {a b : Bool} (h : A.bEq a b = false) : a ≠ b := by subst hA; simpa [stdOps] using h
theorem bneT (hA : A = stdOps E) {a b : Bool} (h : A.bNot (A.bEq a b) = true) : a ≠ b := beqF hA (notT hA h)
theorem bneF (hA : A = stdOps E) {a b : Bool} (h : A.bNot (A.bEq a b) = false) : a = b := beqT hA (notF hA h)
theorem iEqI (hA : A = stdOps E) (a b : Int) : A.iEq a b = decide (a = b) := by subst hA; rfl
theorem slI (hA : A = stdOps E) {l h n l' h' n' : Int} (e1 : l = l') (e2 : h = h') (e3 : n = n') (h0 : 0 ≤ l') (h1 : l' ≤ h') (h2 : h' ≤ n') : A.sl l h n := by subst hA e1 e2 e3; exact ⟨h0, h1, h2⟩
theorem bneIT (hA : A = stdOps E) {a b : Int} {c : Bool} (h : A.bNot (A.bEq (A.iEq a b) c) = true) : decide (a = b) ≠ c := by have := bneT hA h; rw [iEqI hA] at this; exact this
theorem addI (hA : A = stdOps E) (a b : Int) : A.iAdd a b = a + b := by subst hA; rfl
theorem subI (hA : A = stdOps E) (a b : Int) : A.iSub a b = a - b := by subst hA; rfl
theorem mulI (hA : A = stdOps E) (a b : Int) : A.iMul a b = a * b := by subst hA; rfl
theorem modI (hA : A = stdOps E) (a b : Int) : A.iMod a b = a.tmod b := by subst hA; rfl
theorem divI (hA : A = stdOps E) (a b : Int) : A.iDiv a b = a.tdiv b := by subst hA; rfl
theorem lenI (hA : A = stdOps E) {xs : List PV} {n : Nat} (h : xs.length = n) : A.lLen xs = (n : Int) := by subst hA; subst h; rfl
theorem natI (hA : A = stdOps E) (n : Nat) : A.iNat n = (n : Int) := by subst hA; rfl
theorem natN (hA : A = stdOps E) (n : Int) : A.nNat n = n.toNat := by subst hA; rfl
theorem natNat (hA : A = stdOps E) {n : Int} (h : 0 ≤ n) : A.iNat (A.nNat n) = n := by subst hA; exact Int.toNat_of_nonneg h
theorem inRI (hA : A = stdOps E) {a : Int} (h : inI64 a) : A.inR a := by subst hA; exact h
theorem inR' (hA : A = stdOps E) {a b : Int} (e : a = b) (h : inI64 b) : A.inR a := by subst hA; subst e; exact h
theorem withI (hA : A = stdOps E) {a b c : Int} (e : b = c) (h0 : 0 ≤ a) (h : a < c) : A.within a b := by subst hA; subst e; exact ⟨h0, h⟩
end

theorem mem_snoc {α : Type} {p : α → Prop} {l l' : List α} {y : α} (e : l' = l ++ [y]) (h : ∀ x ∈ l, p x) (hy : p y) : ∀ x ∈ l', p x := by
  subst e
  intro x hx
  rcases List.mem_append.1 hx with h1 | h1
  · exact h x h1
  · rw [List.mem_singleton.1 h1]; exact hy
theorem take_all {α : Type} {p : α → Prop} {l : List α} {i : Int} (hi : i = (l.length : Int)) (h : ∀ x ∈ l.take i.toNat, p x) : ∀ x ∈ l, p x := by
  rw [List.take_of_length_le (by omega)] at h
  exact h
theorem any_f {α : Type} {p : α → Bool} {l : List α} (h : ∀ x ∈ l, p x = false) : l.any p = false := by rw [List.any_eq_false]; intro x hx; simp [h x hx]
theorem all_t {α : Type} {p : α → Bool} {l : List α} (h : ∀ x ∈ l, p x = true) : l.all p = true := by rw [List.all_eq_true]; exact h
theorem leS_refl (s : SV) : leS s s := (leL_refl [s]).1
theorem leL_same {s : SV} {l l' : List SV} (h : leL l l') : leL (s :: l) (s :: l') := ⟨leS_refl s, h⟩
theorem leL_any {s : SV} {l l' : List SV} (h : leL l l') : leL (s :: l) (SV.val .any :: l') := ⟨trivial, h⟩
theorem leL_own {t m : Nat} {xs : List PV} {l l' : List SV} (h : leL l l') : leL (.own t m xs :: l) (SV.val (.list m xs) :: l') := ⟨.inr (.inl rfl), h⟩
theorem leL_lit {m : Nat} {xs : List PV} {l l' : List SV} (h : leL l l') : leL (.lit m xs :: l) (SV.val (.list m xs) :: l') := ⟨.inr (.inl rfl), h⟩
theorem leL_nil : leL [] [] := trivial
end Go.Abs
