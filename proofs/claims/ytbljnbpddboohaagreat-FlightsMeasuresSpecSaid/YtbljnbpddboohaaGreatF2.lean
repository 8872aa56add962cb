/-
  Functions: bounds, hours, speeds.
-/
import Derived.Test.YtbljnbpddboohaaGreatF1
import Derived.Test.YtbljnbpddboohaaGreatS1
set_option linter.unusedVariables false
set_option linter.unusedSimpArgs false
namespace Go.Abs
open Go.RowKit Go.Proofs

theorem air_in (n lo hi : Int) : CallsPV Tryz.prog 38 [.int .i64 n, .int .i64 lo, .int .i64 hi] (.bool (inB n lo hi)) := by
  refine callsPV_by (clo := fun _ => false) (rows := false) env_ok Tryz.func38 rfl (enters_of Tryz.func38 (by kernel_rfl) rfl) (fun A q P Y hr hA hq => ?_)
  conv => cbv
  split <;> (rename_i h; conv => cbv) <;> (subst hA; subst hq; simp_all [stdOps, inB]; try omega)

theorem hours_Check1 (s : Span) : CallsPV Tryz.prog 73 [encSpan s] (.bool (spanBad s)) := by
  refine callsPV_by (clo := fun _ => false) (rows := false) env_ok Tryz.func73 rfl (enters_of Tryz.func73 (by kernel_rfl) rfl) (fun A q P Y hr hA hq => ?_)
  obtain ⟨a, b⟩ := s
  conv => cbv
  split <;> (rename_i h; conv => cbv)
  · subst hA; subst hq; simp_all [stdOps, spanBad]
  · split <;> (rename_i h2; conv => cbv) <;> (subst hA; subst hq; simp_all [stdOps, spanBad]; try omega)

theorem hours_Check {xs : List PV} (l : List Span) (hx : xs = encSpans l) : CallsPV Tryz.prog 43 [.list 2 xs] (.int .i64 (if hoursOk l then 0 else 50)) := by
  refine callsPV_by (clo := fun _ => false) (rows := false) env_ok Tryz.func43 rfl (enters_of Tryz.func43 (by kernel_rfl) rfl) (fun A q P Y hr hA hq => ?_)
  conv => cbv
  refine call_intro hA (containsFunc_Span spanBad l hx fun x _ => hours_Check1 x) ?_
  obtain ⟨r, hr⟩ : ∃ r, r = l.any spanBad := ⟨_, rfl⟩
  rw [← hr]
  conv => cbv
  split <;> (conv => cbv) <;> (rw [← hq]; simp [hoursOk, ← hr])

theorem withinL_drop (l : List Int) (i : Nat) (h : i + 2 < l.length) : withinL (l.drop i) = (!(decide (l[i] < l[i + 1]) || decide (l[i + 2] < l[i])) && withinL (l.drop (i + 3))) := by
  rw [List.drop_eq_getElem_cons (by omega), List.drop_eq_getElem_cons (by omega), List.drop_eq_getElem_cons (by omega), withinL]
theorem withinL_short (l : List Int) (h : l.length ≤ 2) : withinL l = true := by
  match l, h with
  | [], _ => rfl
  | [_], _ => rfl
  | [_, _], _ => rfl

theorem speed_within {xs : List PV} (l : List Int) (hx : xs = encInts l) (hl : l.length ≤ 1000) : CallsPV Tryz.prog 97 [.list 1 xs] (.bool (withinL l)) := by
  refine callsPV_by (clo := fun _ => false) (rows := false) env_ok Tryz.func97 rfl (enters_of Tryz.func97 (by kernel_rfl) rfl) (fun A q P Y hr hA hq => ?_)
  have hll : xs.length = l.length := by rw [hx]; simp [encInts]
  conv => cbv
  refine loop_set hA (fun (i : Int) s => s.put (some 3) (.val (.int .i64 i))) (fun i => 0 ≤ i ∧ i ≤ l.length + 3 ∧ withinL l = withinL (l.drop i.toNat)) (fun i => (l.length + 3 - i).toNat) 0 ?_ ?_ ?_
  · conv => cbv
    exact wk_sl (by simp [leL, leS])
  · exact ⟨Int.le_refl _, by omega, by simp⟩
  · intro R i hi hR
    have r2 : inI64 (i + 2) := by unfold inI64; omega
    have r1 : inI64 (i + 1) := by unfold inI64; omega
    have r3 : inI64 (i + 3) := by unfold inI64; omega
    conv => cbv
    refine ⟨by subst hA; exact r2, ?_⟩
    split
    · rename_i h1
      have h1' : i + 2 < l.length := by subst hA; rw [← hll]; simpa [stdOps] using h1
      have hn : i.toNat + 2 < l.length := by omega
      have hw := withinL_drop l i.toNat hn
      have e1 : (i + 1).toNat = i.toNat + 1 := by omega
      have e2 : (i + 2).toNat = i.toNat + 2 := by omega
      have e3 : (i + 3).toNat = i.toNat + 3 := by omega
      conv => cbv
      refine ⟨draw_intro hA (by kernel_rfl), ?_⟩
      refine idx_Int hA hx hi.1 (by omega) (fun x hxx => ?_)
      conv => cbv
      refine ⟨by subst hA; exact r1, ?_⟩
      refine idx_Int hA hx (n := A.iAdd i 1) (by subst hA; show 0 ≤ i + 1; omega) (by subst hA; show i + 1 < l.length; omega) (fun y hy => ?_)
      have hxv : l[i.toNat] = x := (List.getElem?_eq_some_iff.1 hxx).2
      have hyv : l[i.toNat + 1] = y := by subst hA; have : l[(i + 1).toNat]? = some y := hy; rw [e1] at this; exact (List.getElem?_eq_some_iff.1 this).2
      conv => cbv
      have fin : ∀ b : Bool, withinL l = (b && withinL (l.drop (i.toNat + 3))) → b = true → (0 ≤ i + 3 ∧ i + 3 ≤ l.length + 3 ∧ withinL l = withinL (l.drop (i + 3).toNat)) ∧ (l.length + 3 - (i + 3)).toNat < (l.length + 3 - i).toNat := by
        intro b hb hbt
        subst hbt
        exact ⟨⟨by omega, by omega, by rw [e3, hb]; simp⟩, by omega⟩
      split
      · rename_i h2
        conv => cbv
        rw [← hq, hi.2.2, hw, hxv, hyv]
        have h2' : x < y := by subst hA; simpa [stdOps] using h2
        simp [h2']
      · rename_i h2
        have h2' : ¬ x < y := by subst hA; simpa [stdOps] using h2
        conv => cbv
        refine idx_Int hA hx hi.1 (by omega) (fun x' hx' => ?_)
        obtain rfl : x = x' := by rw [hxx] at hx'; exact Option.some.inj hx'
        conv => cbv
        refine ⟨by subst hA; exact r2, ?_⟩
        refine idx_Int hA hx (n := A.iAdd i 2) (by subst hA; show 0 ≤ i + 2; omega) (by subst hA; show i + 2 < l.length; omega) (fun z hz => ?_)
        have hzv : l[i.toNat + 2] = z := by subst hA; have : l[(i + 2).toNat]? = some z := hz; rw [e2] at this; exact (List.getElem?_eq_some_iff.1 this).2
        conv => cbv
        split
        · rename_i h3
          conv => cbv
          rw [← hq, hi.2.2, hw, hxv, hyv, hzv]
          have h3' : z < x := by subst hA; simpa [stdOps] using h3
          simp [h3']
        · rename_i h3
          have h3' : ¬ z < x := by subst hA; simpa [stdOps] using h3
          conv => cbv
          refine ⟨by subst hA; exact r3, hR (A.iAdd i 3) _ (by (conv => cbv); exact wk_sl (by simp [leL, leS])) ?_ ?_⟩
          · subst hA
            exact (fin _ (hi.2.2.trans hw) (by rw [hxv, hyv, hzv]; simp [h2', h3'])).1
          · subst hA
            exact (fin _ (hi.2.2.trans hw) (by rw [hxv, hyv, hzv]; simp [h2', h3'])).2
    · rename_i h1
      have h1' : ¬ i + 2 < l.length := by subst hA; rw [← hll]; simpa [stdOps] using h1
      conv => cbv
      rw [← hq, hi.2.2, withinL_short]
      simp; omega
end Go.Abs
