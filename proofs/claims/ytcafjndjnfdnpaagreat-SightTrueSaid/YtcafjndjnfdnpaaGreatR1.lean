/-
  Functions of the reference: few, alike.
-/
import Derived.Test.YtcafjndjnfdnpaaGreatF2
set_option linter.unusedVariables false
set_option linter.unusedSimpArgs false
namespace Go.Abs
open Go.RowKit Go.Proofs

theorem eq_step {a b : List Int} (hl : a.length = b.length) {i : Nat} (hi : i < a.length) {x y : Int} (hx : a[i]? = some x) (hy : b[i]? = some y) (h : a.take i = b.take i) : a.take (i + 1) = b.take (i + 1) ↔ x = y := by
  rw [List.take_add_one, List.take_add_one, hx, hy, h]
  simp

theorem ref_SameInts (a b : List Int) {xs ys : List PV} (hx : xs = encInts a) (hy : ys = encInts b) (m m' : Nat) (hm : m = 1 ∨ a = []) (hm' : m' = 1 ∨ b = []) : CallsPV Tryz.prog 46 [.list m xs, .list m' ys] (.bool (decide (a = b))) := by
  refine callsPV_by (clo := fun _ => false) (rows := false) env_ok Tryz.func46 rfl (enters_of Tryz.func46 (by kernel_rfl) rfl) (fun A q P Y hr hA hq => ?_)
  have hxl : A.lLen xs = a.length := by subst hA; show (xs.length : Int) = _; rw [hx]; simp [encInts]
  have hyl : A.lLen ys = b.length := by subst hA; show (ys.length : Int) = _; rw [hy]; simp [encInts]
  have hal : a.length ≤ 9223372036854775807 := by
    have := (hr.mem (p := .list m xs) (by simp)).len
    rw [hx] at this; simpa [encInts] using this
  conv => cbv
  split
  · rename_i hc
    have h1 : a.length ≠ b.length := by
      have h' : A.bNot (A.iEq (A.lLen xs) (A.lLen ys)) = true := hc
      rw [hxl, hyl] at h'; subst hA; simp [stdOps] at h'; omega
    conv => cbv
    rw [← hq, decide_eq_false (fun e => h1 (by rw [e]))]
  rename_i hc
  have h1 : a.length = b.length := by
    have h' : A.bNot (A.iEq (A.lLen xs) (A.lLen ys)) = false := hc
    rw [hxl, hyl] at h'; subst hA; simp [stdOps] at h'; omega
  conv => cbv
  refine loop_set hA (fun (i : Int) s => s.put (some 5) (.val (.int .i64 i))) (fun i => 0 ≤ i ∧ i ≤ a.length ∧ a.take i.toNat = b.take i.toNat) (fun i => (a.length - i).toNat) 0 ?_ ?_ ?_
  · conv => cbv
    exact wk_sl (by simp [leL, leS])
  · exact ⟨Int.le_refl _, by omega, by simp⟩
  · rintro R i ⟨hi0, hi1, hi2⟩ hR
    conv => cbv
    split
    · rename_i hc
      have hc' : i < a.length := by
        have h' : A.iLt i (A.lLen xs) = true := hc
        rw [hxl] at h'; subst hA; simpa [stdOps] using h'
      have hne : a ≠ [] := by intro e; subst e; simp at hc'; omega
      have hne' : b ≠ [] := by intro e; subst e; simp at h1; exact hne h1
      have e1 : m = 1 := by rcases hm with h | h; exact h; exact absurd h hne
      have e2 : m' = 1 := by rcases hm' with h | h; exact h; exact absurd h hne'
      subst e1 e2
      conv => cbv
      refine ⟨draw_intro hA (by kernel_rfl), ?_⟩
      refine idx_Int hA hx hi0 hc' (fun x hx1 => ?_)
      conv => cbv
      refine idx_Int hA hy hi0 (by omega) (fun y hy1 => ?_)
      have hst := eq_step h1 (show i.toNat < a.length by omega) hx1 hy1 hi2
      have hi1' : A.iAdd i 1 = i + 1 := by subst hA; rfl
      have hinr : A.inR (A.iAdd i 1) := by rw [hi1']; subst hA; show inI64 (i + 1); unfold inI64; omega
      conv => cbv
      split
      · rename_i hc2
        have h2 : x ≠ y := by subst hA; simpa [stdOps] using hc2
        conv => cbv
        rw [← hq, decide_eq_false]
        intro e
        exact h2 (hst.1 (by rw [e]))
      · rename_i hc2
        have h2 : x = y := by subst hA; simpa [stdOps] using hc2
        conv => cbv
        refine ⟨hinr, hR (A.iAdd i 1) _ (by (conv => cbv); exact wk_sl (by simp [leL, leS])) ?_ ?_⟩
        · rw [hi1', show (i + 1).toNat = i.toNat + 1 by omega]
          exact ⟨by omega, by omega, hst.2 h2⟩
        · rw [hi1']; omega
    · rename_i hc
      have hc' : ¬ i < a.length := by
        have h' : A.iLt i (A.lLen xs) = false := hc
        rw [hxl] at h'; subst hA; simp [stdOps] at h'; omega
      conv => cbv
      rw [List.take_of_length_le (by omega), List.take_of_length_le (by omega)] at hi2
      rw [← hq, decide_eq_true hi2]

theorem ref_SameLists (a b : List (List Int)) {xs ys : List PV} (hx : xs = encIntLs a) (hy : ys = encIntLs b) (m m' : Nat) (hm : m = 1 ∨ a = []) (hm' : m' = 1 ∨ b = []) : CallsPV Tryz.prog 47 [.list m xs, .list m' ys] (.bool (decide (a = b))) := by
  refine callsPV_by (clo := fun _ => false) (rows := false) env_ok Tryz.func47 rfl (enters_of Tryz.func47 (by kernel_rfl) rfl) (fun A q P Y hr hA hq => ?_)
  have hxl : A.lLen xs = a.length := by subst hA; show (xs.length : Int) = _; rw [hx]; simp [encIntLs]
  have hyl : A.lLen ys = b.length := by subst hA; show (ys.length : Int) = _; rw [hy]; simp [encIntLs]
  have hal : a.length ≤ 9223372036854775807 := by
    have := (hr.mem (p := .list m xs) (by simp)).len
    rw [hx] at this; simpa [encIntLs] using this
  conv => cbv
  split
  · rename_i hc
    have h1 : a.length ≠ b.length := by
      have h' : A.bNot (A.iEq (A.lLen xs) (A.lLen ys)) = true := hc
      rw [hxl, hyl] at h'; subst hA; simp [stdOps] at h'; omega
    conv => cbv
    rw [← hq, decide_eq_false (fun e => h1 (by rw [e]))]
  rename_i hc
  have h1 : a.length = b.length := by
    have h' : A.bNot (A.iEq (A.lLen xs) (A.lLen ys)) = false := hc
    rw [hxl, hyl] at h'; subst hA; simp [stdOps] at h'; omega
  conv => cbv
  refine loop_set hA (fun (i : Int) s => s.put (some 5) (.val (.int .i64 i))) (fun i => 0 ≤ i ∧ i ≤ a.length ∧ a.take i.toNat = b.take i.toNat) (fun i => (a.length - i).toNat) 0 ?_ ?_ ?_
  · conv => cbv
    exact wk_sl (by simp [leL, leS])
  · exact ⟨Int.le_refl _, by omega, by simp⟩
  · rintro R i ⟨hi0, hi1, hi2⟩ hR
    conv => cbv
    split
    · rename_i hc
      have hc' : i < a.length := by
        have h' : A.iLt i (A.lLen xs) = true := hc
        rw [hxl] at h'; subst hA; simpa [stdOps] using h'
      have hne : a ≠ [] := by intro e; subst e; simp at hc'; omega
      have hne' : b ≠ [] := by intro e; subst e; simp at h1; exact hne h1
      have e1 : m = 1 := by rcases hm with h | h; exact h; exact absurd h hne
      have e2 : m' = 1 := by rcases hm' with h | h; exact h; exact absurd h hne'
      subst e1 e2
      conv => cbv
      refine ⟨draw_intro hA (by kernel_rfl), ?_⟩
      refine idx_IntL hA hx hi0 hc' (fun x u hx1 hu => ?_)
      conv => cbv
      refine idx_IntL hA hy hi0 (by omega) (fun y v hy1 hv => ?_)
      have hst : a.take (i.toNat + 1) = b.take (i.toNat + 1) ↔ x = y := by
        rw [List.take_add_one, List.take_add_one, hx1, hy1, hi2]; simp
      have hi1' : A.iAdd i 1 = i + 1 := by subst hA; rfl
      have hinr : A.inR (A.iAdd i 1) := by rw [hi1']; subst hA; show inI64 (i + 1); unfold inI64; omega
      conv => cbv
      refine callB hA (ref_SameInts x y hu hv 1 1 (.inl rfl) (.inl rfl)) rfl (fun r hr => ?_)
      conv => cbv
      split
      · rename_i hc2
        have h2 : x ≠ y := by
          have : r = false := by subst hA; simpa [stdOps] using hc2
          rw [this] at hr; simpa using hr.symm
        conv => cbv
        rw [← hq, decide_eq_false]
        intro e
        exact h2 (hst.1 (by rw [e]))
      · rename_i hc2
        have h2 : x = y := by
          have : r = true := by subst hA; simpa [stdOps] using hc2
          rw [this] at hr; simpa using hr.symm
        conv => cbv
        refine ⟨hinr, hR (A.iAdd i 1) _ (by (conv => cbv); exact wk_sl (by simp [leL, leS])) ?_ ?_⟩
        · rw [hi1', show (i + 1).toNat = i.toNat + 1 by omega]
          exact ⟨by omega, by omega, hst.2 h2⟩
        · rw [hi1']; omega
    · rename_i hc
      have hc' : ¬ i < a.length := by
        have h' : A.iLt i (A.lLen xs) = false := hc
        rw [hxl] at h'; subst hA; simp [stdOps] at h'; omega
      conv => cbv
      rw [List.take_of_length_le (by omega), List.take_of_length_le (by omega)] at hi2
      rw [← hq, decide_eq_true hi2]

/-- Reports and trajectories are few. -/
def few23 (reports : Nat) (l : List Path) : Bool := l.all (fun p => decide (p.Times.length ≤ 12)) && decide (reports ≤ 20) && decide (l.length ≤ 20)

end Go.Abs
