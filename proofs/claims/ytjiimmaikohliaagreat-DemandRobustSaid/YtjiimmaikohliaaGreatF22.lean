/-
  Functions: cmp's, flights.Compare, Decided.
-/
import Derived.Test.YtjiimmaikohliaaGreatF15
set_option linter.unusedVariables false
set_option linter.unusedSimpArgs false
namespace Go.Abs
open Go.RowKit Go.Proofs

theorem cmp_isNaN (n : Int) : CallsPV Tryz.prog 56 [.int .i64 n] (.bool false) := by
  refine callsPV_by (clo := fun _ => false) (rows := false) env_ok Tryz.func56 rfl (enters_of Tryz.func56 (by kernel_rfl) rfl) (fun A q P Y hr hA hq => ?_)
  conv => cbv
  rw [← hq]
  subst hA; simp [stdOps]

def cmpI (a b : Int) : Int := if a < b then -1 else if b < a then 1 else 0
theorem cmp_Compare (a b : Int) : CallsPV Tryz.prog 44 [.int .i64 a, .int .i64 b] (.int .i64 (cmpI a b)) := by
  refine callsPV_by (clo := fun _ => false) (rows := false) env_ok Tryz.func44 rfl (enters_of Tryz.func44 (by kernel_rfl) rfl) (fun A q P Y hr hA hq => ?_)
  have hC : cmpI a b = if a < b then -1 else if b < a then 1 else 0 := rfl
  rw [hC] at hq
  conv => cbv
  refine call_intro hA (cmp_isNaN a) ?_
  conv => cbv
  refine call_intro hA (cmp_isNaN b) ?_
  conv => cbv
  split
  · rename_i h
    conv => cbv
    rw [← hq, if_pos (ltT hA h)]
  rename_i h1
  conv => cbv
  split
  · rename_i h
    conv => cbv
    rw [← hq, if_neg (by have := ltF hA h1; omega), if_pos (ltT hA h)]
  rename_i h2
  conv => cbv
  rw [← hq, if_neg (by have := ltF hA h1; omega), if_neg (by have := ltF hA h2; omega)]

/-- The first that is not nought. -/
def orI : List Int → Int
  | [] => 0
  | x :: r => if x ≠ 0 then x else orI r
theorem orI_append : ∀ (a b : List Int), (∀ x ∈ a, x = 0) → orI (a ++ b) = orI b
  | [], b, _ => rfl
  | x :: r, b, h => by
    rw [List.cons_append, orI, if_neg (by simp [h x (by simp)])]
    exact orI_append r b fun y hy => h y (by simp [hy])
theorem cmp_Or (l : List Int) {xs : List PV} (hx : xs = encInts l) : CallsPV Tryz.prog 43 [.list 1 xs] (.int .i64 (orI l)) := by
  refine callsPV_by (clo := fun _ => false) (rows := false) env_ok Tryz.func43 rfl (enters_of Tryz.func43 (by kernel_rfl) rfl) (fun A q P Y hr hA hq => ?_)
  have hll : xs.length = l.length := by rw [hx]; simp [encInts]
  have hlen : l.length ≤ 9223372036854775807 := by have := (hr.mem (p := .list 1 xs) (by simp)).len; omega
  conv => cbv
  refine loop_set hA (fun (i : Int) s => s.put (some 8) (.val (.int .i64 i))) (fun i => 0 ≤ i ∧ i ≤ (l.length : Int) ∧ (fun i => ∀ x ∈ l.take i.toNat, x = 0) i) (fun i => ((l.length : Int) - i).toNat) 0 ?_ ?_ ?_
  · conv => cbv
    exact wk_sl (by repeat (first | refine leL_same ?_ | refine leL_any ?_ | exact leL_nil))
  · exact ⟨Int.le_refl _, by omega, by simp⟩
  rintro R i ⟨hi0, hi1, hi2⟩ hRi
  conv => cbv
  split
  ·   rename_i hc
      have hi : i < (l.length : Int) := ltT' hA rfl (lenI hA hll) hc
      have his : A.iAdd i 1 = i + 1 := addI hA _ _
      have hir : A.inR (A.iAdd i 1) := inR' hA his (by unfold inI64; omega)
      have him : ((l.length : Int) - A.iAdd i 1).toNat < ((l.length : Int) - i).toNat := by rw [his]; omega
      have hin : (fun i => ∀ x ∈ l.take i.toNat, x = 0) (i + 1) → 0 ≤ A.iAdd i 1 ∧ A.iAdd i 1 ≤ (l.length : Int) ∧ (fun i => ∀ x ∈ l.take i.toNat, x = 0) (A.iAdd i 1) := fun h => by rw [his]; exact ⟨by omega, by omega, h⟩
      simp only at hin
      conv => cbv
      refine idx_Int hA hx hi0 hi (fun x hx0 => ?_)
      have ht := take_snoc' hi0 hx0
      have hn : i.toNat < l.length := by omega
      have e : orI l = orI (x :: l.drop (i.toNat + 1)) := by
        have h1 := List.getElem?_eq_some_iff.1 hx0
        rw [← h1.2, List.getElem_cons_drop h1.1]
        conv => lhs; rw [← List.take_append_drop i.toNat l]
        exact orI_append _ _ hi2
      conv => cbv
      split
      · rename_i h
        conv => cbv
        rw [← hq, e, orI, if_pos (neT hA h)]
      rename_i h
      conv => cbv
      exact ⟨hir, hRi (A.iAdd i 1) _ (by (conv => cbv); exact wk_sl (by repeat (first | refine leL_same ?_ | refine leL_any ?_ | exact leL_nil))) (hin (mem_snoc ht hi2 (neF hA h))) him⟩
  rename_i hc
  have hi : i = (l.length : Int) := by have := ltF' hA rfl (lenI hA hll) hc; omega
  conv => cbv
  have h0 : orI l = 0 := by
    have := orI_append l [] (take_all hi hi2)
    rw [List.append_nil] at this; exact this
  rw [← hq, h0]

def cmpOpt (a b : Opt) : Int :=
  if a.Cancel = b.Cancel then orI [cmpI a.Delay b.Delay, cmpI a.Way b.Way, cmpI a.Hold b.Hold] else if a.Cancel then 1 else -1
end Go.Abs
