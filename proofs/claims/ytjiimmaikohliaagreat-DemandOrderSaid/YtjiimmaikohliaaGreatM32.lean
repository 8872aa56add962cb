/-
  Law DemandOrder.
-/
import Derived.Test.YtjiimmaikohliaaGreatM31
set_option linter.unusedVariables false
set_option linter.unusedSimpArgs false
namespace Go.Abs
open Go.RowKit Go.Proofs

theorem bnf {A : Ops} {E : Env} (hA : A = stdOps E) : A.bNot false = true := by subst hA; rfl
theorem bnl {A : Ops} {E : Env} (hA : A = stdOps E) {a b : Int} (h : b ≤ a) : A.bNot (A.iLt a b) = true := by
  subst hA
  show (!decide (a < b)) = true
  rw [decide_eq_false (by omega)]; rfl

set_option maxRecDepth 10000 in
set_option maxHeartbeats 2000000 in
theorem law_DemandOrder (a b c : Cell) (_ : okCell a) (_ : okCell b) (_ : okCell c) : CallsPV Tryz.prog 9 [encCell a, encCell b, encCell c] (.bool true) := by
  have h1 := dm_Compare a b
  have h2 := dm_Compare b c
  have h3 := dm_Compare a c
  have h4 := dm_Compare b a
  have o1 := cmpC_order a b c
  have o2 := cmpC_cases a b
  have o3 := cmpC_zero a b
  have o4 := @cmpC_airport a b
  have o5 := cmpC_swap a b
  generalize cmpC b a = nx at h4 o5
  generalize cmpC a b = x at h1 o1 o2 o3 o4 o5
  generalize cmpC b c = y at h2 o1
  generalize cmpC a c = z at h3 o1
  refine callsPV_by (clo := fun _ => false) (rows := false) env_ok Tryz.func9 rfl (enters_of Tryz.func9 (by kernel_rfl) rfl) (fun A q P Y hr hA hq => ?_)
  obtain ⟨a1, a2, a3⟩ := a
  obtain ⟨b1, b2, b3⟩ := b
  obtain ⟨c1, c2, c3⟩ := c
  simp only at o4
  have fin : ∀ v, v = true → PV.bool v = q := fun v h => by rw [h]; exact hq
  clear hq
  refine seq_stop (fun R hR => ?_)
  conv => cbv
  refine hR _ ?_
  clear hR
  refine seq_stop (fun R hR => ?_)
  conv => cbv
  refine call_intro hA (law20_sane) ?_
  conv => cbv
  split
  · rename_i hc
    cases (nT hA hc)
  conv => cbv
  refine hR _ ?_
  clear hR
  refine seq_stop (fun R hR => ?_)
  conv => cbv
  refine ⟨draw_intro hA (by kernel_rfl), ?_⟩
  refine call_intro hA (h1) ?_
  conv => cbv
  refine call_intro hA (h2) ?_
  conv => cbv
  refine call_intro hA (h3) ?_
  conv => cbv
  refine hR _ ?_
  clear hR
  refine seq_stop (fun R hR => ?_)
  conv => cbv
  split
  · rename_i hc
    have hf : False := by have := ltT hA hc; omega
    cases hf
  conv => cbv
  split
  · rename_i hc
    have hf : False := by have := ltT hA hc; omega
    cases hf
  conv => cbv
  refine call_intro hA (h4) ?_
  conv => cbv
  have hneg : A.iNeg nx = x := by subst hA; show -nx = x; omega
  refine ⟨by subst hA; exact ⟨by omega, by omega⟩, ?_⟩
  conv => cbv
  split
  · rename_i hc
    cases (neT hA hc hneg.symm)
  conv => cbv
  have heq : A.bEq (A.iEq x 0) (A.bAnd (A.bEq a1 b1) (A.bAnd (A.iEq a2 b2) (A.bAnd (A.iEq a3 b3) true))) = true := by
    subst hA
    show decide (decide (x = 0) = (decide (a1 = b1) && (decide (a2 = b2) && (decide (a3 = b3) && true)))) = true
    rw [decide_eq_true_eq, Bool.eq_iff_iff]
    simp only [Bool.and_true, Bool.and_eq_true, decide_eq_true_eq, o3]
    constructor
    · intro h; cases h; exact ⟨rfl, rfl, rfl⟩
    · rintro ⟨rfl, rfl, rfl⟩; rfl
  split
  · rename_i hc
    cases (nT hA ((congrArg A.bNot heq).symm.trans hc))
  clear heq
  conv => cbv
  split
  · rename_i ha
    conv => cbv
    split
    · rename_i hb
      have hx : x = -1 := o4 (notT hA ha) rfl
      conv => cbv
      split
      · rename_i hc
        cases (neT hA hc hx)
      conv => cbv
      refine hR _ ?_
      clear hR
      conv => cbv
      split
      · rename_i k1
        replace k1 := leT hA k1
        conv => cbv
        split
        · rename_i k2
          replace k2 := leT hA k2
          conv => cbv
          split
          · rename_i k3
            have g3 := ltF hA (notT hA k3)
            conv => cbv
            split
            · rename_i k4
              replace k4 := leT hA k4
              conv => cbv
              split
              · rename_i k5
                replace k5 := leT hA k5
                conv => cbv
                exact fin _ (bnl hA (by omega))
              · rename_i k5
                conv => cbv
                exact fin _ (bnf hA)
            · rename_i k4
              conv => cbv
              exact fin _ (bnf hA)
          · rename_i k3
            have hf : False := by have := ltT hA (notF hA k3); omega
            cases hf
        · rename_i k2
          replace k2 := leF hA k2
          conv => cbv
          split
          · rename_i k3
            conv => cbv
            split
            · rename_i k4
              replace k4 := leT hA k4
              conv => cbv
              split
              · rename_i k5
                replace k5 := leT hA k5
                conv => cbv
                exact fin _ (bnl hA (by omega))
              · rename_i k5
                conv => cbv
                exact fin _ (bnf hA)
            · rename_i k4
              conv => cbv
              exact fin _ (bnf hA)
          · rename_i k3
            cases (nF hA k3)
      · rename_i k1
        replace k1 := leF hA k1
        conv => cbv
        split
        · rename_i k3
          conv => cbv
          split
          · rename_i k4
            replace k4 := leT hA k4
            conv => cbv
            split
            · rename_i k5
              replace k5 := leT hA k5
              conv => cbv
              exact fin _ (bnl hA (by omega))
            · rename_i k5
              conv => cbv
              exact fin _ (bnf hA)
          · rename_i k4
            conv => cbv
            exact fin _ (bnf hA)
        · rename_i k3
          cases (nF hA k3)
    · rename_i hb
      conv => cbv
      refine hR _ ?_
      clear hR
      conv => cbv
      split
      · rename_i k1
        replace k1 := leT hA k1
        conv => cbv
        split
        · rename_i k2
          replace k2 := leT hA k2
          conv => cbv
          split
          · rename_i k3
            have g3 := ltF hA (notT hA k3)
            conv => cbv
            split
            · rename_i k4
              replace k4 := leT hA k4
              conv => cbv
              split
              · rename_i k5
                replace k5 := leT hA k5
                conv => cbv
                exact fin _ (bnl hA (by omega))
              · rename_i k5
                conv => cbv
                exact fin _ (bnf hA)
            · rename_i k4
              conv => cbv
              exact fin _ (bnf hA)
          · rename_i k3
            have hf : False := by have := ltT hA (notF hA k3); omega
            cases hf
        · rename_i k2
          replace k2 := leF hA k2
          conv => cbv
          split
          · rename_i k3
            conv => cbv
            split
            · rename_i k4
              replace k4 := leT hA k4
              conv => cbv
              split
              · rename_i k5
                replace k5 := leT hA k5
                conv => cbv
                exact fin _ (bnl hA (by omega))
              · rename_i k5
                conv => cbv
                exact fin _ (bnf hA)
            · rename_i k4
              conv => cbv
              exact fin _ (bnf hA)
          · rename_i k3
            cases (nF hA k3)
      · rename_i k1
        replace k1 := leF hA k1
        conv => cbv
        split
        · rename_i k3
          conv => cbv
          split
          · rename_i k4
            replace k4 := leT hA k4
            conv => cbv
            split
            · rename_i k5
              replace k5 := leT hA k5
              conv => cbv
              exact fin _ (bnl hA (by omega))
            · rename_i k5
              conv => cbv
              exact fin _ (bnf hA)
          · rename_i k4
            conv => cbv
            exact fin _ (bnf hA)
        · rename_i k3
          cases (nF hA k3)
  · rename_i ha
    conv => cbv
    refine hR _ ?_
    clear hR
    conv => cbv
    split
    · rename_i k1
      replace k1 := leT hA k1
      conv => cbv
      split
      · rename_i k2
        replace k2 := leT hA k2
        conv => cbv
        split
        · rename_i k3
          have g3 := ltF hA (notT hA k3)
          conv => cbv
          split
          · rename_i k4
            replace k4 := leT hA k4
            conv => cbv
            split
            · rename_i k5
              replace k5 := leT hA k5
              conv => cbv
              exact fin _ (bnl hA (by omega))
            · rename_i k5
              conv => cbv
              exact fin _ (bnf hA)
          · rename_i k4
            conv => cbv
            exact fin _ (bnf hA)
        · rename_i k3
          have hf : False := by have := ltT hA (notF hA k3); omega
          cases hf
      · rename_i k2
        replace k2 := leF hA k2
        conv => cbv
        split
        · rename_i k3
          conv => cbv
          split
          · rename_i k4
            replace k4 := leT hA k4
            conv => cbv
            split
            · rename_i k5
              replace k5 := leT hA k5
              conv => cbv
              exact fin _ (bnl hA (by omega))
            · rename_i k5
              conv => cbv
              exact fin _ (bnf hA)
          · rename_i k4
            conv => cbv
            exact fin _ (bnf hA)
        · rename_i k3
          cases (nF hA k3)
    · rename_i k1
      replace k1 := leF hA k1
      conv => cbv
      split
      · rename_i k3
        conv => cbv
        split
        · rename_i k4
          replace k4 := leT hA k4
          conv => cbv
          split
          · rename_i k5
            replace k5 := leT hA k5
            conv => cbv
            exact fin _ (bnl hA (by omega))
          · rename_i k5
            conv => cbv
            exact fin _ (bnf hA)
        · rename_i k4
          conv => cbv
          exact fin _ (bnf hA)
      · rename_i k3
        cases (nF hA k3)
end Go.Abs
