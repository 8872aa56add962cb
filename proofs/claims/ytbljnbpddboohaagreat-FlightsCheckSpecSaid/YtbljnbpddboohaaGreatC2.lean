/-
  strings.IndexByte, by the library's contract; names.
-/
import Derived.Test.YtbljnbpddboohaaGreatF15
import Derived.Shelf.Small.Strs
set_option linter.unusedVariables false
set_option linter.unusedSimpArgs false
namespace Go.Abs
open Go.RowKit Go.Proofs Go.Shelf

def renIdx : Ren := ⟨fun x => if x = 137 then 86 else if x = 217 then 105 else 120, fun x => if x = 3 then 3 else if x = 5 then 5 else 9, id⟩

theorem layIdx : Lays.n137 Tryz.prog renIdx where
  mixed := by kernel_rfl
  f137 := by kernel_rfl
  f217 := by kernel_rfl
  f266 := by kernel_rfl
  t3 := Tryz.underlying3
  a3 := Tryz.isAgg3
  z3 := Tryz.sizeOf3
  v3 := Tryz.zeroValue3
  t5 := Tryz.underlying5
  a5 := Tryz.isAgg5
  z5 := Tryz.sizeOf5
  v5 := Tryz.zeroValue5
  t9 := Tryz.underlying9
  a9 := Tryz.isAgg9
  z9 := Tryz.sizeOf9
  v9 := Tryz.zeroValue9

theorem str_IndexByte (s : ByteArray) (c : Int) : CallsPV Tryz.prog 86 [.str s, .int .u8 c] (.int .i64 (Lib.indexByte s.data.toList c.toNat.toUInt8)) := by
  refine ⟨enters_of Tryz.func86 (by kernel_rfl) rfl, fun S w vs hS hv => ?_⟩
  obtain ⟨hl, hv⟩ := hv
  match vs, hl with
  | [v0, v1], _ =>
    have h0 := hv 0 _ v0 rfl rfl
    have h1 := hv 1 _ v1 rfl rfl
    cases h0; cases h1
    have h : Calls Tryz.prog 86 #[.string s, .int .u8 c] w _ := Any.strings_IndexByte layIdx s c w
    refine h.mono ?_
    rintro e w' ⟨rfl, rfl⟩
    exact ⟨_, rfl, Below.refl _ _, .int _ _⟩

def marks : ByteArray := ⟨#[123, 125, 40, 41, 59, 44, 61, 35, 47, 60, 33, 45, 46]⟩
def classI (c : Int) : Int :=
  if (97 ≤ c ∧ c ≤ 122) ∨ (65 ≤ c ∧ c ≤ 90) then 2 else if 48 ≤ c ∧ c ≤ 57 then 3 else if c = 95 then 5 else if c = 32 ∨ c = 9 ∨ c = 10 ∨ c = 13 then 1 else
    if 0 ≤ Lib.indexByte marks.data.toList c.toNat.toUInt8 then 4 else 0

theorem lex_class (c : Int) : CallsPV Tryz.prog 56 [.int .u8 c] (.int .i64 (classI c)) := by
  refine callsPV_by (clo := fun _ => false) (rows := false) env_ok Tryz.func56 rfl (enters_of Tryz.func56 (by kernel_rfl) rfl) (fun A q P Y hr hA hq => ?_)
  have hidx := str_IndexByte marks c
  have hC : classI c = if (97 ≤ c ∧ c ≤ 122) ∨ (65 ≤ c ∧ c ≤ 90) then 2 else if 48 ≤ c ∧ c ≤ 57 then 3 else if c = 95 then 5 else if c = 32 ∨ c = 9 ∨ c = 10 ∨ c = 13 then 1 else
    if 0 ≤ Lib.indexByte marks.data.toList c.toNat.toUInt8 then 4 else 0 := rfl
  generalize Lib.indexByte marks.data.toList c.toNat.toUInt8 = ix at hidx hC
  generalize classI c = v at hq hC
  have two : ((97 ≤ c ∧ c ≤ 122) ∨ (65 ≤ c ∧ c ≤ 90)) → PV.int .i64 2 = q := fun h => by rw [← hq, hC, if_pos h]
  have rest : ¬ ((97 ≤ c ∧ c ≤ 122) ∨ (65 ≤ c ∧ c ≤ 90)) → PV.int .i64 (if 48 ≤ c ∧ c ≤ 57 then 3 else if c = 95 then 5 else if c = 32 ∨ c = 9 ∨ c = 10 ∨ c = 13 then 1 else if 0 ≤ ix then 4 else 0) = q := fun h => by rw [← hq, hC, if_neg h]
  clear hq hC
  have rest2 : ¬ ((97 ≤ c ∧ c ≤ 122) ∨ (65 ≤ c ∧ c ≤ 90)) → ¬ (48 ≤ c ∧ c ≤ 57) → PV.int .i64 (if c = 95 then 5 else if c = 32 ∨ c = 9 ∨ c = 10 ∨ c = 13 then 1 else if 0 ≤ ix then 4 else 0) = q := fun h h2 => by rw [← rest h, if_neg h2]
  have rest3 : ¬ ((97 ≤ c ∧ c ≤ 122) ∨ (65 ≤ c ∧ c ≤ 90)) → ¬ (48 ≤ c ∧ c ≤ 57) → c ≠ 95 → PV.int .i64 (if c = 32 ∨ c = 9 ∨ c = 10 ∨ c = 13 then 1 else if 0 ≤ ix then 4 else 0) = q := fun h h2 h3 => by rw [← rest2 h h2, if_neg h3]
  have spc : ¬ ((97 ≤ c ∧ c ≤ 122) ∨ (65 ≤ c ∧ c ≤ 90)) → ¬ (48 ≤ c ∧ c ≤ 57) → c ≠ 95 → (c = 32 ∨ c = 9 ∨ c = 10 ∨ c = 13) → PV.int .i64 1 = q := fun h h2 h3 h4 => by rw [← rest3 h h2 h3, if_pos h4]
  have rest4 : ¬ ((97 ≤ c ∧ c ≤ 122) ∨ (65 ≤ c ∧ c ≤ 90)) → ¬ (48 ≤ c ∧ c ≤ 57) → c ≠ 95 → ¬ (c = 32 ∨ c = 9 ∨ c = 10 ∨ c = 13) → PV.int .i64 (if 0 ≤ ix then 4 else 0) = q := fun h h2 h3 h4 => by rw [← rest3 h h2 h3, if_neg h4]
  rw [show marks = ⟨#[123, 125, 40, 41, 59, 44, 61, 35, 47, 60, 33, 45, 46]⟩ from rfl] at hidx
  conv => cbv
  split
  · rename_i h1
    conv => cbv
    split
    · rename_i h2
      conv => cbv
      exact two (.inl ⟨leT hA h1, leT hA h2⟩)
    · rename_i h2
      conv => cbv
      split
      · rename_i h3
        conv => cbv
        split
        · rename_i h4
          conv => cbv
          exact two (.inr ⟨leT hA h3, leT hA h4⟩)
        · rename_i h4
          have hN : ¬ ((97 ≤ c ∧ c ≤ 122) ∨ (65 ≤ c ∧ c ≤ 90)) := by have := leF hA h2; have := leF hA h4; omega
          conv => cbv
          split
          · rename_i d1
            conv => cbv
            split
            · rename_i d2
              conv => cbv
              rw [← rest hN, if_pos ⟨leT hA d1, leT hA d2⟩]
            · rename_i d2
              have hD : ¬ (48 ≤ c ∧ c ≤ 57) := by have := leF hA d2; omega
              conv => cbv
              split
              · rename_i d3
                conv => cbv
                rw [← rest2 hN hD, if_pos (eqT hA d3)]
              · rename_i d3
                have hU := eqF hA d3
                conv => cbv
                split
                · rename_i d4
                  conv => cbv
                  exact spc hN hD hU (.inl (eqT hA d4))
                · rename_i d4
                  conv => cbv
                  split
                  · rename_i d5
                    conv => cbv
                    exact spc hN hD hU (.inr (.inl (eqT hA d5)))
                  · rename_i d5
                    conv => cbv
                    split
                    · rename_i d6
                      conv => cbv
                      exact spc hN hD hU (.inr (.inr (.inl (eqT hA d6))))
                    · rename_i d6
                      conv => cbv
                      split
                      · rename_i d7
                        conv => cbv
                        exact spc hN hD hU (.inr (.inr (.inr (eqT hA d7))))
                      · rename_i d7
                        have hS : ¬ (c = 32 ∨ c = 9 ∨ c = 10 ∨ c = 13) := by have := eqF hA d4; have := eqF hA d5; have := eqF hA d6; have := eqF hA d7; omega
                        conv => cbv
                        refine call_intro hA hidx ?_
                        conv => cbv
                        split
                        · rename_i d8
                          conv => cbv
                          rw [← rest4 hN hD hU hS, if_pos (leT hA d8)]
                        · rename_i d8
                          conv => cbv
                          rw [← rest4 hN hD hU hS, if_neg (by have := leF hA d8; omega)]
          · rename_i d1
            have hD : ¬ (48 ≤ c ∧ c ≤ 57) := by have := leF hA d1; omega
            conv => cbv
            split
            · rename_i d3
              conv => cbv
              rw [← rest2 hN hD, if_pos (eqT hA d3)]
            · rename_i d3
              have hU := eqF hA d3
              conv => cbv
              split
              · rename_i d4
                conv => cbv
                exact spc hN hD hU (.inl (eqT hA d4))
              · rename_i d4
                conv => cbv
                split
                · rename_i d5
                  conv => cbv
                  exact spc hN hD hU (.inr (.inl (eqT hA d5)))
                · rename_i d5
                  conv => cbv
                  split
                  · rename_i d6
                    conv => cbv
                    exact spc hN hD hU (.inr (.inr (.inl (eqT hA d6))))
                  · rename_i d6
                    conv => cbv
                    split
                    · rename_i d7
                      conv => cbv
                      exact spc hN hD hU (.inr (.inr (.inr (eqT hA d7))))
                    · rename_i d7
                      have hS : ¬ (c = 32 ∨ c = 9 ∨ c = 10 ∨ c = 13) := by have := eqF hA d4; have := eqF hA d5; have := eqF hA d6; have := eqF hA d7; omega
                      conv => cbv
                      refine call_intro hA hidx ?_
                      conv => cbv
                      split
                      · rename_i d8
                        conv => cbv
                        rw [← rest4 hN hD hU hS, if_pos (leT hA d8)]
                      · rename_i d8
                        conv => cbv
                        rw [← rest4 hN hD hU hS, if_neg (by have := leF hA d8; omega)]
      · rename_i h3
        have hN : ¬ ((97 ≤ c ∧ c ≤ 122) ∨ (65 ≤ c ∧ c ≤ 90)) := by have := leF hA h2; have := leF hA h3; omega
        conv => cbv
        split
        · rename_i d1
          conv => cbv
          split
          · rename_i d2
            conv => cbv
            rw [← rest hN, if_pos ⟨leT hA d1, leT hA d2⟩]
          · rename_i d2
            have hD : ¬ (48 ≤ c ∧ c ≤ 57) := by have := leF hA d2; omega
            conv => cbv
            split
            · rename_i d3
              conv => cbv
              rw [← rest2 hN hD, if_pos (eqT hA d3)]
            · rename_i d3
              have hU := eqF hA d3
              conv => cbv
              split
              · rename_i d4
                conv => cbv
                exact spc hN hD hU (.inl (eqT hA d4))
              · rename_i d4
                conv => cbv
                split
                · rename_i d5
                  conv => cbv
                  exact spc hN hD hU (.inr (.inl (eqT hA d5)))
                · rename_i d5
                  conv => cbv
                  split
                  · rename_i d6
                    conv => cbv
                    exact spc hN hD hU (.inr (.inr (.inl (eqT hA d6))))
                  · rename_i d6
                    conv => cbv
                    split
                    · rename_i d7
                      conv => cbv
                      exact spc hN hD hU (.inr (.inr (.inr (eqT hA d7))))
                    · rename_i d7
                      have hS : ¬ (c = 32 ∨ c = 9 ∨ c = 10 ∨ c = 13) := by have := eqF hA d4; have := eqF hA d5; have := eqF hA d6; have := eqF hA d7; omega
                      conv => cbv
                      refine call_intro hA hidx ?_
                      conv => cbv
                      split
                      · rename_i d8
                        conv => cbv
                        rw [← rest4 hN hD hU hS, if_pos (leT hA d8)]
                      · rename_i d8
                        conv => cbv
                        rw [← rest4 hN hD hU hS, if_neg (by have := leF hA d8; omega)]
        · rename_i d1
          have hD : ¬ (48 ≤ c ∧ c ≤ 57) := by have := leF hA d1; omega
          conv => cbv
          split
          · rename_i d3
            conv => cbv
            rw [← rest2 hN hD, if_pos (eqT hA d3)]
          · rename_i d3
            have hU := eqF hA d3
            conv => cbv
            split
            · rename_i d4
              conv => cbv
              exact spc hN hD hU (.inl (eqT hA d4))
            · rename_i d4
              conv => cbv
              split
              · rename_i d5
                conv => cbv
                exact spc hN hD hU (.inr (.inl (eqT hA d5)))
              · rename_i d5
                conv => cbv
                split
                · rename_i d6
                  conv => cbv
                  exact spc hN hD hU (.inr (.inr (.inl (eqT hA d6))))
                · rename_i d6
                  conv => cbv
                  split
                  · rename_i d7
                    conv => cbv
                    exact spc hN hD hU (.inr (.inr (.inr (eqT hA d7))))
                  · rename_i d7
                    have hS : ¬ (c = 32 ∨ c = 9 ∨ c = 10 ∨ c = 13) := by have := eqF hA d4; have := eqF hA d5; have := eqF hA d6; have := eqF hA d7; omega
                    conv => cbv
                    refine call_intro hA hidx ?_
                    conv => cbv
                    split
                    · rename_i d8
                      conv => cbv
                      rw [← rest4 hN hD hU hS, if_pos (leT hA d8)]
                    · rename_i d8
                      conv => cbv
                      rw [← rest4 hN hD hU hS, if_neg (by have := leF hA d8; omega)]
  · rename_i h1
    conv => cbv
    split
    · rename_i h3
      conv => cbv
      split
      · rename_i h4
        conv => cbv
        exact two (.inr ⟨leT hA h3, leT hA h4⟩)
      · rename_i h4
        have hN : ¬ ((97 ≤ c ∧ c ≤ 122) ∨ (65 ≤ c ∧ c ≤ 90)) := by have := leF hA h1; have := leF hA h4; omega
        conv => cbv
        split
        · rename_i d1
          conv => cbv
          split
          · rename_i d2
            conv => cbv
            rw [← rest hN, if_pos ⟨leT hA d1, leT hA d2⟩]
          · rename_i d2
            have hD : ¬ (48 ≤ c ∧ c ≤ 57) := by have := leF hA d2; omega
            conv => cbv
            split
            · rename_i d3
              conv => cbv
              rw [← rest2 hN hD, if_pos (eqT hA d3)]
            · rename_i d3
              have hU := eqF hA d3
              conv => cbv
              split
              · rename_i d4
                conv => cbv
                exact spc hN hD hU (.inl (eqT hA d4))
              · rename_i d4
                conv => cbv
                split
                · rename_i d5
                  conv => cbv
                  exact spc hN hD hU (.inr (.inl (eqT hA d5)))
                · rename_i d5
                  conv => cbv
                  split
                  · rename_i d6
                    conv => cbv
                    exact spc hN hD hU (.inr (.inr (.inl (eqT hA d6))))
                  · rename_i d6
                    conv => cbv
                    split
                    · rename_i d7
                      conv => cbv
                      exact spc hN hD hU (.inr (.inr (.inr (eqT hA d7))))
                    · rename_i d7
                      have hS : ¬ (c = 32 ∨ c = 9 ∨ c = 10 ∨ c = 13) := by have := eqF hA d4; have := eqF hA d5; have := eqF hA d6; have := eqF hA d7; omega
                      conv => cbv
                      refine call_intro hA hidx ?_
                      conv => cbv
                      split
                      · rename_i d8
                        conv => cbv
                        rw [← rest4 hN hD hU hS, if_pos (leT hA d8)]
                      · rename_i d8
                        conv => cbv
                        rw [← rest4 hN hD hU hS, if_neg (by have := leF hA d8; omega)]
        · rename_i d1
          have hD : ¬ (48 ≤ c ∧ c ≤ 57) := by have := leF hA d1; omega
          conv => cbv
          split
          · rename_i d3
            conv => cbv
            rw [← rest2 hN hD, if_pos (eqT hA d3)]
          · rename_i d3
            have hU := eqF hA d3
            conv => cbv
            split
            · rename_i d4
              conv => cbv
              exact spc hN hD hU (.inl (eqT hA d4))
            · rename_i d4
              conv => cbv
              split
              · rename_i d5
                conv => cbv
                exact spc hN hD hU (.inr (.inl (eqT hA d5)))
              · rename_i d5
                conv => cbv
                split
                · rename_i d6
                  conv => cbv
                  exact spc hN hD hU (.inr (.inr (.inl (eqT hA d6))))
                · rename_i d6
                  conv => cbv
                  split
                  · rename_i d7
                    conv => cbv
                    exact spc hN hD hU (.inr (.inr (.inr (eqT hA d7))))
                  · rename_i d7
                    have hS : ¬ (c = 32 ∨ c = 9 ∨ c = 10 ∨ c = 13) := by have := eqF hA d4; have := eqF hA d5; have := eqF hA d6; have := eqF hA d7; omega
                    conv => cbv
                    refine call_intro hA hidx ?_
                    conv => cbv
                    split
                    · rename_i d8
                      conv => cbv
                      rw [← rest4 hN hD hU hS, if_pos (leT hA d8)]
                    · rename_i d8
                      conv => cbv
                      rw [← rest4 hN hD hU hS, if_neg (by have := leF hA d8; omega)]
    · rename_i h3
      have hN : ¬ ((97 ≤ c ∧ c ≤ 122) ∨ (65 ≤ c ∧ c ≤ 90)) := by have := leF hA h1; have := leF hA h3; omega
      conv => cbv
      split
      · rename_i d1
        conv => cbv
        split
        · rename_i d2
          conv => cbv
          rw [← rest hN, if_pos ⟨leT hA d1, leT hA d2⟩]
        · rename_i d2
          have hD : ¬ (48 ≤ c ∧ c ≤ 57) := by have := leF hA d2; omega
          conv => cbv
          split
          · rename_i d3
            conv => cbv
            rw [← rest2 hN hD, if_pos (eqT hA d3)]
          · rename_i d3
            have hU := eqF hA d3
            conv => cbv
            split
            · rename_i d4
              conv => cbv
              exact spc hN hD hU (.inl (eqT hA d4))
            · rename_i d4
              conv => cbv
              split
              · rename_i d5
                conv => cbv
                exact spc hN hD hU (.inr (.inl (eqT hA d5)))
              · rename_i d5
                conv => cbv
                split
                · rename_i d6
                  conv => cbv
                  exact spc hN hD hU (.inr (.inr (.inl (eqT hA d6))))
                · rename_i d6
                  conv => cbv
                  split
                  · rename_i d7
                    conv => cbv
                    exact spc hN hD hU (.inr (.inr (.inr (eqT hA d7))))
                  · rename_i d7
                    have hS : ¬ (c = 32 ∨ c = 9 ∨ c = 10 ∨ c = 13) := by have := eqF hA d4; have := eqF hA d5; have := eqF hA d6; have := eqF hA d7; omega
                    conv => cbv
                    refine call_intro hA hidx ?_
                    conv => cbv
                    split
                    · rename_i d8
                      conv => cbv
                      rw [← rest4 hN hD hU hS, if_pos (leT hA d8)]
                    · rename_i d8
                      conv => cbv
                      rw [← rest4 hN hD hU hS, if_neg (by have := leF hA d8; omega)]
      · rename_i d1
        have hD : ¬ (48 ≤ c ∧ c ≤ 57) := by have := leF hA d1; omega
        conv => cbv
        split
        · rename_i d3
          conv => cbv
          rw [← rest2 hN hD, if_pos (eqT hA d3)]
        · rename_i d3
          have hU := eqF hA d3
          conv => cbv
          split
          · rename_i d4
            conv => cbv
            exact spc hN hD hU (.inl (eqT hA d4))
          · rename_i d4
            conv => cbv
            split
            · rename_i d5
              conv => cbv
              exact spc hN hD hU (.inr (.inl (eqT hA d5)))
            · rename_i d5
              conv => cbv
              split
              · rename_i d6
                conv => cbv
                exact spc hN hD hU (.inr (.inr (.inl (eqT hA d6))))
              · rename_i d6
                conv => cbv
                split
                · rename_i d7
                  conv => cbv
                  exact spc hN hD hU (.inr (.inr (.inr (eqT hA d7))))
                · rename_i d7
                  have hS : ¬ (c = 32 ∨ c = 9 ∨ c = 10 ∨ c = 13) := by have := eqF hA d4; have := eqF hA d5; have := eqF hA d6; have := eqF hA d7; omega
                  conv => cbv
                  refine call_intro hA hidx ?_
                  conv => cbv
                  split
                  · rename_i d8
                    conv => cbv
                    rw [← rest4 hN hD hU hS, if_pos (leT hA d8)]
                  · rename_i d8
                    conv => cbv
                    rw [← rest4 hN hD hU hS, if_neg (by have := leF hA d8; omega)]
end Go.Abs
