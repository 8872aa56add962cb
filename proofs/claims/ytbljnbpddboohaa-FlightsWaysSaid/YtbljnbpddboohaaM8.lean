/-
  Laws FlightsTotal, FlightsDecided.
-/
import Derived.Test.YtbljnbpddboohaaL2
import Derived.Test.YtbljnbpddboohaaR3
import Derived.Test.YtbljnbpddboohaaG5
set_option linter.unusedVariables false
set_option linter.unusedSimpArgs false
namespace Go.Abs
open Go.RowKit Go.Proofs

def ltO (a b : Opt) : Prop := (a.Cancel = false ∧ b.Cancel = true) ∨ (a.Cancel = b.Cancel ∧ (a.Delay < b.Delay ∨ (a.Delay = b.Delay ∧ (a.Way < b.Way ∨ (a.Way = b.Way ∧ a.Hold < b.Hold)))))

theorem cmpI_spec (a b : Int) : (cmpI a b = -1 ∧ a < b) ∨ (cmpI a b = 0 ∧ a = b) ∨ (cmpI a b = 1 ∧ b < a) := by
  unfold cmpI
  split
  · exact .inl ⟨rfl, ‹_›⟩
  · split
    · exact .inr (.inr ⟨rfl, ‹_›⟩)
    · exact .inr (.inl ⟨rfl, by omega⟩)

theorem orI3 (x y z : Int) : orI [x, y, z] = if x ≠ 0 then x else if y ≠ 0 then y else z := by
  unfold orI orI orI orI
  split
  · rfl
  · split
    · rfl
    · split
      · rfl
      · omega

theorem cmpOpt_spec (a b : Opt) : (cmpOpt a b = -1 ∧ ltO a b) ∨ (cmpOpt a b = 0 ∧ a = b) ∨ (cmpOpt a b = 1 ∧ ltO b a) := by
  obtain ⟨a1, a2, a3, a4⟩ := a
  obtain ⟨b1, b2, b3, b4⟩ := b
  unfold cmpOpt ltO
  simp only
  rw [orI3]
  have h1 := cmpI_spec a1 b1
  have h2 := cmpI_spec a2 b2
  have h3 := cmpI_spec a3 b3
  generalize cmpI a1 b1 = x at h1 ⊢
  generalize cmpI a2 b2 = y at h2 ⊢
  generalize cmpI a3 b3 = z at h3 ⊢
  simp only [Opt.mk.injEq]
  cases a4 <;> cases b4 <;> simp only [if_true, if_false, reduceCtorEq, and_true, true_and, and_false, false_and, or_false, false_or] <;>
    rcases h1 with ⟨rfl, h1⟩ | ⟨rfl, h1⟩ | ⟨rfl, h1⟩ <;> rcases h2 with ⟨rfl, h2⟩ | ⟨rfl, h2⟩ | ⟨rfl, h2⟩ <;> rcases h3 with ⟨rfl, h3⟩ | ⟨rfl, h3⟩ | ⟨rfl, h3⟩ <;> simp <;> omega

theorem ltO_trans {a b c : Opt} (h1 : ltO a b) (h2 : ltO b c) : ltO a c := by
  obtain ⟨a1, a2, a3, a4⟩ := a
  obtain ⟨b1, b2, b3, b4⟩ := b
  obtain ⟨c1, c2, c3, c4⟩ := c
  unfold ltO at *
  simp only at *
  cases a4 <;> cases b4 <;> cases c4 <;> simp at * <;> omega
theorem ltO_irrefl (a : Opt) : ¬ ltO a a := by
  obtain ⟨a1, a2, a3, a4⟩ := a
  unfold ltO
  cases a4 <;> simp

/-- What the law asks of four comparisons. -/
theorem cmp_facts (a b c : Opt) : cmpOpt a b = -cmpOpt b a ∧ -1 ≤ cmpOpt a b ∧ cmpOpt a b ≤ 1 ∧ (cmpOpt a b = 0 ↔ a = b) ∧ -1 ≤ cmpOpt b a ∧ cmpOpt b a ≤ 1 ∧
    (cmpOpt a b ≤ 0 → cmpOpt b c ≤ 0 → cmpOpt a c ≤ 0 ∧ (cmpOpt a c < 0 ∨ (cmpOpt a b = 0 ∧ cmpOpt b c = 0))) := by
  have hab := cmpOpt_spec a b
  have hba := cmpOpt_spec b a
  have hbc := cmpOpt_spec b c
  have hac := cmpOpt_spec a c
  have i1 : ∀ {x y : Opt}, ltO x y → ltO y x → False := fun h1 h2 => ltO_irrefl _ (ltO_trans h1 h2)
  have i2 : ∀ {x y : Opt}, ltO x y → x ≠ y := fun h1 e => ltO_irrefl _ (e ▸ h1)
  refine ⟨?_, by omega, by omega, ?_, by omega, by omega, fun h1 h2 => ?_⟩
  · rcases hab with ⟨e, h⟩ | ⟨e, h⟩ | ⟨e, h⟩ <;> rcases hba with ⟨e', h'⟩ | ⟨e', h'⟩ | ⟨e', h'⟩ <;> rw [e, e'] <;> first | rfl | exact (i1 h h').elim | exact (i2 h h'.symm).elim | exact (i2 h' h.symm).elim | exact (i2 h h').elim | exact (i2 h' h).elim
  · rcases hab with ⟨e, h⟩ | ⟨e, h⟩ | ⟨e, h⟩ <;> rw [e]
    · exact ⟨fun x => by omega, fun x => (i2 h x).elim⟩
    · exact ⟨fun _ => h, fun _ => rfl⟩
    · exact ⟨fun x => by omega, fun x => (i2 h x.symm).elim⟩
  · rcases hab with ⟨e, h⟩ | ⟨e, h⟩ | ⟨e, h⟩
    · rcases hbc with ⟨e', h'⟩ | ⟨e', h'⟩ | ⟨e', h'⟩
      · have k := ltO_trans h h'
        rcases hac with ⟨e2, h2⟩ | ⟨e2, h2⟩ | ⟨e2, h2⟩
        · omega
        · exact (i2 k h2).elim
        · exact (i1 k h2).elim
      · subst h'; omega
      · omega
    · subst h; omega
    · omega

theorem negI {A : Ops} {E : Env} (hA : A = stdOps E) (a : Int) : A.iNeg a = -a := by subst hA; rfl

set_option maxHeartbeats 1000000 in
theorem law_FlightsTotal (a b c : Opt) (_ : okOpt a) (_ : okOpt b) (_ : okOpt c) : CallsPV Try.prog 5 [encOpt a, encOpt b, encOpt c] (.bool true) := by
  refine callsPV_by (clo := fun _ => false) (rows := false) env_ok Try.func5 rfl (enters_of Try.func5 (by kernel_rfl) rfl) (fun A q P Y hr hA hq => ?_)
  obtain ⟨f1, f2, f3, f4, f5, f6, f7⟩ := cmp_facts a b c
  have cab := fl_Compare a b
  have cba := fl_Compare b a
  have cbc := fl_Compare b c
  have cac := fl_Compare a c
  have caa := fl_Compare a a
  rw [cmpOpt_self] at caa
  generalize cmpOpt a b = r1 at cab f1 f2 f3 f4 f7
  generalize cmpOpt b a = r2 at cba f1 f5 f6
  generalize cmpOpt b c = r3 at cbc f7
  generalize cmpOpt a c = r4 at cac f7
  obtain ⟨a1, a2, a3, a4⟩ := a
  obtain ⟨b1, b2, b3, b4⟩ := b
  obtain ⟨c1, c2, c3, c4⟩ := c
  have hneg : A.iNeg r2 = -r2 := negI hA r2
  conv => cbv
  refine call_intro hA (law15_sane) ?_
  conv => cbv
  split
  · rename_i hc
    cases (nT hA hc)
  conv => cbv
  refine ⟨draw_intro hA (by kernel_rfl), ?_⟩
  refine call_intro hA (cab) ?_
  conv => cbv
  refine call_intro hA (cba) ?_
  conv => cbv
  refine call_intro hA (cbc) ?_
  conv => cbv
  refine call_intro hA (cac) ?_
  conv => cbv
  refine ⟨by subst hA; show -9223372036854775808 < r2 ∧ r2 ≤ 9223372036854775807; omega, ?_⟩
  conv => cbv
  split
  · rename_i hc
    cases (neT' hA rfl hneg hc f1)
  conv => cbv
  split
  · rename_i hc
    have h := ltT hA hc
    cases (show False by omega)
  conv => cbv
  split
  · rename_i hc
    have h := ltT hA hc
    cases (show False by omega)
  conv => cbv
  split
  · rename_i hc
    have hf : False := by
      subst hA
      simp [stdOps] at hc
      simp only [Opt.mk.injEq] at f4
      by_cases h0 : r1 = 0 <;> simp [h0] at hc f4 <;> simp_all
    cases hf
  conv => cbv
  refine call_intro hA (caa) ?_
  conv => cbv
  split
  · rename_i hc
    cases (neT hA hc rfl)
  conv => cbv
  clear caa cab cba cbc cac f4 hneg
  repeat' (split <;> conv => cbv)
  all_goals first
    | exact hq
    | (refine Eq.trans ?_ hq; clear hq; subst hA; simp [stdOps] at * <;> omega)
end Go.Abs
