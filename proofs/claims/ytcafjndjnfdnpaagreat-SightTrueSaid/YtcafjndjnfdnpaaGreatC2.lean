/-
  strings.IndexByte, by the library's contract; names.
  Functions: names, flights.Check's closure.
  Functions of the reference's chapter 7: names.
-/
import Derived.Test.YtcafjndjnfdnpaaGreatF15
import Derived.Shelf.Small.Strs
set_option linter.unusedVariables false
set_option linter.unusedSimpArgs false
namespace Go.Abs
open Go.RowKit Go.Proofs Go.Shelf

def renIdx : Ren := ⟨fun x => if x = 137 then 188 else if x = 217 then 243 else 280, fun x => if x = 3 then 3 else if x = 5 then 5 else 9, id⟩

theorem layIdx : Lays.n137 Tryz.prog renIdx where
  mixed := by kernel_rfl
  f137 := by kernel_rfl
  f217 := by kernel_rfl
  f266 := by kernel_rfl
  t3 := Tryz.underlying3
  a3 := Tryz.isAgg3
  z3 := Tryz.sizeOf3
  v3 := Tryz.zeroValue3
  t5 := Tryz.underlying5
  a5 := Tryz.isAgg5
  z5 := Tryz.sizeOf5
  v5 := Tryz.zeroValue5
  t9 := Tryz.underlying9
  a9 := Tryz.isAgg9
  z9 := Tryz.sizeOf9
  v9 := Tryz.zeroValue9

theorem str_IndexByte (s : ByteArray) (c : Int) : CallsPV Tryz.prog 188 [.str s, .int .u8 c] (.int .i64 (Lib.indexByte s.data.toList c.toNat.toUInt8)) := by
  refine ⟨enters_of Tryz.func188 (by kernel_rfl) rfl, fun S w vs hS hv => ?_⟩
  obtain ⟨hl, hv⟩ := hv
  match vs, hl with
  | [v0, v1], _ =>
    have h0 := hv 0 _ v0 rfl rfl
    have h1 := hv 1 _ v1 rfl rfl
    cases h0; cases h1
    have h : Calls Tryz.prog 188 #[.string s, .int .u8 c] w _ := Any.strings_IndexByte layIdx s c w
    refine h.mono ?_
    rintro e w' ⟨rfl, rfl⟩
    exact ⟨_, rfl, Below.refl _ _, .int _ _⟩

def marks : ByteArray := ⟨#[123, 125, 40, 41, 59, 44, 61, 35, 47, 60, 33, 45, 46]⟩
def classI (c : Int) : Int :=
  if (97 ≤ c ∧ c ≤ 122) ∨ (65 ≤ c ∧ c ≤ 90) then 2 else if 48 ≤ c ∧ c ≤ 57 then 3 else if c = 95 then 5 else if c = 32 ∨ c = 9 ∨ c = 10 ∨ c = 13 then 1 else
    if 0 ≤ Lib.indexByte marks.data.toList c.toNat.toUInt8 then 4 else 0

theorem lex_class (c : Int) : CallsPV Tryz.prog 126 [.int .u8 c] (.int .i64 (classI c)) := by
  refine callsPV_by (clo := fun _ => false) (rows := false) env_ok Tryz.func126 rfl (enters_of Tryz.func126 (by kernel_rfl) rfl) (fun A q P Y hr hA hq => ?_)
  have hidx := str_IndexByte marks c
  have hC : classI c = if (97 ≤ c ∧ c ≤ 122) ∨ (65 ≤ c ∧ c ≤ 90) then 2 else if 48 ≤ c ∧ c ≤ 57 then 3 else if c = 95 then 5 else if c = 32 ∨ c = 9 ∨ c = 10 ∨ c = 13 then 1 else
    if 0 ≤ Lib.indexByte marks.data.toList c.toNat.toUInt8 then 4 else 0 := rfl
  generalize Lib.indexByte marks.data.toList c.toNat.toUInt8 = ix at hidx hC
  generalize classI c = v at hq hC
  have two : ((97 ≤ c ∧ c ≤ 122) ∨ (65 ≤ c ∧ c ≤ 90)) → PV.int .i64 2 = q := fun h => by rw [← hq, hC, if_pos h]
  have rest : ¬ ((97 ≤ c ∧ c ≤ 122) ∨ (65 ≤ c ∧ c ≤ 90)) → PV.int .i64 (if 48 ≤ c ∧ c ≤ 57 then 3 else if c = 95 then 5 else if c = 32 ∨ c = 9 ∨ c = 10 ∨ c = 13 then 1 else if 0 ≤ ix then 4 else 0) = q := fun h => by rw [← hq, hC, if_neg h]
  clear hq hC
  have rest2 : ¬ ((97 ≤ c ∧ c ≤ 122) ∨ (65 ≤ c ∧ c ≤ 90)) → ¬ (48 ≤ c ∧ c ≤ 57) → PV.int .i64 (if c = 95 then 5 else if c = 32 ∨ c = 9 ∨ c = 10 ∨ c = 13 then 1 else if 0 ≤ ix then 4 else 0) = q := fun h h2 => by rw [← rest h, if_neg h2]
  have rest3 : ¬ ((97 ≤ c ∧ c ≤ 122) ∨ (65 ≤ c ∧ c ≤ 90)) → ¬ (48 ≤ c ∧ c ≤ 57) → c ≠ 95 → PV.int .i64 (if c = 32 ∨ c = 9 ∨ c = 10 ∨ c = 13 then 1 else if 0 ≤ ix then 4 else 0) = q := fun h h2 h3 => by rw [← rest2 h h2, if_neg h3]
  have spc : ¬ ((97 ≤ c ∧ c ≤ 122) ∨ (65 ≤ c ∧ c ≤ 90)) → ¬ (48 ≤ c ∧ c ≤ 57) → c ≠ 95 → (c = 32 ∨ c = 9 ∨ c = 10 ∨ c = 13) → PV.int .i64 1 = q := fun h h2 h3 h4 => by rw [← rest3 h h2 h3, if_pos h4]
  have rest4 : ¬ ((97 ≤ c ∧ c ≤ 122) ∨ (65 ≤ c ∧ c ≤ 90)) → ¬ (48 ≤ c ∧ c ≤ 57) → c ≠ 95 → ¬ (c = 32 ∨ c = 9 ∨ c = 10 ∨ c = 13) → PV.int .i64 (if 0 ≤ ix then 4 else 0) = q := fun h h2 h3 h4 => by rw [← rest3 h h2 h3, if_neg h4]
  rw [show marks = ⟨#[123, 125, 40, 41, 59, 44, 61, 35, 47, 60, 33, 45, 46]⟩ from rfl] at hidx
  conv => cbv
  split
  · rename_i h1
    conv => cbv
    split
    · rename_i h2
      conv => cbv
      exact two (.inl ⟨leT hA h1, leT hA h2⟩)
    · rename_i h2
      conv => cbv
      split
      · rename_i h3
        conv => cbv
        split
        · rename_i h4
          conv => cbv
          exact two (.inr ⟨leT hA h3, leT hA h4⟩)
        · rename_i h4
          have hN : ¬ ((97 ≤ c ∧ c ≤ 122) ∨ (65 ≤ c ∧ c ≤ 90)) := by have := leF hA h2; have := leF hA h4; omega
          conv => cbv
          split
          · rename_i d1
            conv => cbv
            split
            · rename_i d2
              conv => cbv
              rw [← rest hN, if_pos ⟨leT hA d1, leT hA d2⟩]
            · rename_i d2
              have hD : ¬ (48 ≤ c ∧ c ≤ 57) := by have := leF hA d2; omega
              conv => cbv
              split
              · rename_i d3
                conv => cbv
                rw [← rest2 hN hD, if_pos (eqT hA d3)]
              · rename_i d3
                have hU := eqF hA d3
                conv => cbv
                split
                · rename_i d4
                  conv => cbv
                  exact spc hN hD hU (.inl (eqT hA d4))
                · rename_i d4
                  conv => cbv
                  split
                  · rename_i d5
                    conv => cbv
                    exact spc hN hD hU (.inr (.inl (eqT hA d5)))
                  · rename_i d5
                    conv => cbv
                    split
                    · rename_i d6
                      conv => cbv
                      exact spc hN hD hU (.inr (.inr (.inl (eqT hA d6))))
                    · rename_i d6
                      conv => cbv
                      split
                      · rename_i d7
                        conv => cbv
                        exact spc hN hD hU (.inr (.inr (.inr (eqT hA d7))))
                      · rename_i d7
                        have hS : ¬ (c = 32 ∨ c = 9 ∨ c = 10 ∨ c = 13) := by have := eqF hA d4; have := eqF hA d5; have := eqF hA d6; have := eqF hA d7; omega
                        conv => cbv
                        refine call_intro hA hidx ?_
                        conv => cbv
                        split
                        · rename_i d8
                          conv => cbv
                          rw [← rest4 hN hD hU hS, if_pos (leT hA d8)]
                        · rename_i d8
                          conv => cbv
                          rw [← rest4 hN hD hU hS, if_neg (by have := leF hA d8; omega)]
          · rename_i d1
            have hD : ¬ (48 ≤ c ∧ c ≤ 57) := by have := leF hA d1; omega
            conv => cbv
            split
            · rename_i d3
              conv => cbv
              rw [← rest2 hN hD, if_pos (eqT hA d3)]
            · rename_i d3
              have hU := eqF hA d3
              conv => cbv
              split
              · rename_i d4
                conv => cbv
                exact spc hN hD hU (.inl (eqT hA d4))
              · rename_i d4
                conv => cbv
                split
                · rename_i d5
                  conv => cbv
                  exact spc hN hD hU (.inr (.inl (eqT hA d5)))
                · rename_i d5
                  conv => cbv
                  split
                  · rename_i d6
                    conv => cbv
                    exact spc hN hD hU (.inr (.inr (.inl (eqT hA d6))))
                  · rename_i d6
                    conv => cbv
                    split
                    · rename_i d7
                      conv => cbv
                      exact spc hN hD hU (.inr (.inr (.inr (eqT hA d7))))
                    · rename_i d7
                      have hS : ¬ (c = 32 ∨ c = 9 ∨ c = 10 ∨ c = 13) := by have := eqF hA d4; have := eqF hA d5; have := eqF hA d6; have := eqF hA d7; omega
                      conv => cbv
                      refine call_intro hA hidx ?_
                      conv => cbv
                      split
                      · rename_i d8
                        conv => cbv
                        rw [← rest4 hN hD hU hS, if_pos (leT hA d8)]
                      · rename_i d8
                        conv => cbv
                        rw [← rest4 hN hD hU hS, if_neg (by have := leF hA d8; omega)]
      · rename_i h3
        have hN : ¬ ((97 ≤ c ∧ c ≤ 122) ∨ (65 ≤ c ∧ c ≤ 90)) := by have := leF hA h2; have := leF hA h3; omega
        conv => cbv
        split
        · rename_i d1
          conv => cbv
          split
          · rename_i d2
            conv => cbv
            rw [← rest hN, if_pos ⟨leT hA d1, leT hA d2⟩]
          · rename_i d2
            have hD : ¬ (48 ≤ c ∧ c ≤ 57) := by have := leF hA d2; omega
            conv => cbv
            split
            · rename_i d3
              conv => cbv
              rw [← rest2 hN hD, if_pos (eqT hA d3)]
            · rename_i d3
              have hU := eqF hA d3
              conv => cbv
              split
              · rename_i d4
                conv => cbv
                exact spc hN hD hU (.inl (eqT hA d4))
              · rename_i d4
                conv => cbv
                split
                · rename_i d5
                  conv => cbv
                  exact spc hN hD hU (.inr (.inl (eqT hA d5)))
                · rename_i d5
                  conv => cbv
                  split
                  · rename_i d6
                    conv => cbv
                    exact spc hN hD hU (.inr (.inr (.inl (eqT hA d6))))
                  · rename_i d6
                    conv => cbv
                    split
                    · rename_i d7
                      conv => cbv
                      exact spc hN hD hU (.inr (.inr (.inr (eqT hA d7))))
                    · rename_i d7
                      have hS : ¬ (c = 32 ∨ c = 9 ∨ c = 10 ∨ c = 13) := by have := eqF hA d4; have := eqF hA d5; have := eqF hA d6; have := eqF hA d7; omega
                      conv => cbv
                      refine call_intro hA hidx ?_
                      conv => cbv
                      split
                      · rename_i d8
                        conv => cbv
                        rw [← rest4 hN hD hU hS, if_pos (leT hA d8)]
                      · rename_i d8
                        conv => cbv
                        rw [← rest4 hN hD hU hS, if_neg (by have := leF hA d8; omega)]
        · rename_i d1
          have hD : ¬ (48 ≤ c ∧ c ≤ 57) := by have := leF hA d1; omega
          conv => cbv
          split
          · rename_i d3
            conv => cbv
            rw [← rest2 hN hD, if_pos (eqT hA d3)]
          · rename_i d3
            have hU := eqF hA d3
            conv => cbv
            split
            · rename_i d4
              conv => cbv
              exact spc hN hD hU (.inl (eqT hA d4))
            · rename_i d4
              conv => cbv
              split
              · rename_i d5
                conv => cbv
                exact spc hN hD hU (.inr (.inl (eqT hA d5)))
              · rename_i d5
                conv => cbv
                split
                · rename_i d6
                  conv => cbv
                  exact spc hN hD hU (.inr (.inr (.inl (eqT hA d6))))
                · rename_i d6
                  conv => cbv
                  split
                  · rename_i d7
                    conv => cbv
                    exact spc hN hD hU (.inr (.inr (.inr (eqT hA d7))))
                  · rename_i d7
                    have hS : ¬ (c = 32 ∨ c = 9 ∨ c = 10 ∨ c = 13) := by have := eqF hA d4; have := eqF hA d5; have := eqF hA d6; have := eqF hA d7; omega
                    conv => cbv
                    refine call_intro hA hidx ?_
                    conv => cbv
                    split
                    · rename_i d8
                      conv => cbv
                      rw [← rest4 hN hD hU hS, if_pos (leT hA d8)]
                    · rename_i d8
                      conv => cbv
                      rw [← rest4 hN hD hU hS, if_neg (by have := leF hA d8; omega)]
  · rename_i h1
    conv => cbv
    split
    · rename_i h3
      conv => cbv
      split
      · rename_i h4
        conv => cbv
        exact two (.inr ⟨leT hA h3, leT hA h4⟩)
      · rename_i h4
        have hN : ¬ ((97 ≤ c ∧ c ≤ 122) ∨ (65 ≤ c ∧ c ≤ 90)) := by have := leF hA h1; have := leF hA h4; omega
        conv => cbv
        split
        · rename_i d1
          conv => cbv
          split
          · rename_i d2
            conv => cbv
            rw [← rest hN, if_pos ⟨leT hA d1, leT hA d2⟩]
          · rename_i d2
            have hD : ¬ (48 ≤ c ∧ c ≤ 57) := by have := leF hA d2; omega
            conv => cbv
            split
            · rename_i d3
              conv => cbv
              rw [← rest2 hN hD, if_pos (eqT hA d3)]
            · rename_i d3
              have hU := eqF hA d3
              conv => cbv
              split
              · rename_i d4
                conv => cbv
                exact spc hN hD hU (.inl (eqT hA d4))
              · rename_i d4
                conv => cbv
                split
                · rename_i d5
                  conv => cbv
                  exact spc hN hD hU (.inr (.inl (eqT hA d5)))
                · rename_i d5
                  conv => cbv
                  split
                  · rename_i d6
                    conv => cbv
                    exact spc hN hD hU (.inr (.inr (.inl (eqT hA d6))))
                  · rename_i d6
                    conv => cbv
                    split
                    · rename_i d7
                      conv => cbv
                      exact spc hN hD hU (.inr (.inr (.inr (eqT hA d7))))
                    · rename_i d7
                      have hS : ¬ (c = 32 ∨ c = 9 ∨ c = 10 ∨ c = 13) := by have := eqF hA d4; have := eqF hA d5; have := eqF hA d6; have := eqF hA d7; omega
                      conv => cbv
                      refine call_intro hA hidx ?_
                      conv => cbv
                      split
                      · rename_i d8
                        conv => cbv
                        rw [← rest4 hN hD hU hS, if_pos (leT hA d8)]
                      · rename_i d8
                        conv => cbv
                        rw [← rest4 hN hD hU hS, if_neg (by have := leF hA d8; omega)]
        · rename_i d1
          have hD : ¬ (48 ≤ c ∧ c ≤ 57) := by have := leF hA d1; omega
          conv => cbv
          split
          · rename_i d3
            conv => cbv
            rw [← rest2 hN hD, if_pos (eqT hA d3)]
          · rename_i d3
            have hU := eqF hA d3
            conv => cbv
            split
            · rename_i d4
              conv => cbv
              exact spc hN hD hU (.inl (eqT hA d4))
            · rename_i d4
              conv => cbv
              split
              · rename_i d5
                conv => cbv
                exact spc hN hD hU (.inr (.inl (eqT hA d5)))
              · rename_i d5
                conv => cbv
                split
                · rename_i d6
                  conv => cbv
                  exact spc hN hD hU (.inr (.inr (.inl (eqT hA d6))))
                · rename_i d6
                  conv => cbv
                  split
                  · rename_i d7
                    conv => cbv
                    exact spc hN hD hU (.inr (.inr (.inr (eqT hA d7))))
                  · rename_i d7
                    have hS : ¬ (c = 32 ∨ c = 9 ∨ c = 10 ∨ c = 13) := by have := eqF hA d4; have := eqF hA d5; have := eqF hA d6; have := eqF hA d7; omega
                    conv => cbv
                    refine call_intro hA hidx ?_
                    conv => cbv
                    split
                    · rename_i d8
                      conv => cbv
                      rw [← rest4 hN hD hU hS, if_pos (leT hA d8)]
                    · rename_i d8
                      conv => cbv
                      rw [← rest4 hN hD hU hS, if_neg (by have := leF hA d8; omega)]
    · rename_i h3
      have hN : ¬ ((97 ≤ c ∧ c ≤ 122) ∨ (65 ≤ c ∧ c ≤ 90)) := by have := leF hA h1; have := leF hA h3; omega
      conv => cbv
      split
      · rename_i d1
        conv => cbv
        split
        · rename_i d2
          conv => cbv
          rw [← rest hN, if_pos ⟨leT hA d1, leT hA d2⟩]
        · rename_i d2
          have hD : ¬ (48 ≤ c ∧ c ≤ 57) := by have := leF hA d2; omega
          conv => cbv
          split
          · rename_i d3
            conv => cbv
            rw [← rest2 hN hD, if_pos (eqT hA d3)]
          · rename_i d3
            have hU := eqF hA d3
            conv => cbv
            split
            · rename_i d4
              conv => cbv
              exact spc hN hD hU (.inl (eqT hA d4))
            · rename_i d4
              conv => cbv
              split
              · rename_i d5
                conv => cbv
                exact spc hN hD hU (.inr (.inl (eqT hA d5)))
              · rename_i d5
                conv => cbv
                split
                · rename_i d6
                  conv => cbv
                  exact spc hN hD hU (.inr (.inr (.inl (eqT hA d6))))
                · rename_i d6
                  conv => cbv
                  split
                  · rename_i d7
                    conv => cbv
                    exact spc hN hD hU (.inr (.inr (.inr (eqT hA d7))))
                  · rename_i d7
                    have hS : ¬ (c = 32 ∨ c = 9 ∨ c = 10 ∨ c = 13) := by have := eqF hA d4; have := eqF hA d5; have := eqF hA d6; have := eqF hA d7; omega
                    conv => cbv
                    refine call_intro hA hidx ?_
                    conv => cbv
                    split
                    · rename_i d8
                      conv => cbv
                      rw [← rest4 hN hD hU hS, if_pos (leT hA d8)]
                    · rename_i d8
                      conv => cbv
                      rw [← rest4 hN hD hU hS, if_neg (by have := leF hA d8; omega)]
      · rename_i d1
        have hD : ¬ (48 ≤ c ∧ c ≤ 57) := by have := leF hA d1; omega
        conv => cbv
        split
        · rename_i d3
          conv => cbv
          rw [← rest2 hN hD, if_pos (eqT hA d3)]
        · rename_i d3
          have hU := eqF hA d3
          conv => cbv
          split
          · rename_i d4
            conv => cbv
            exact spc hN hD hU (.inl (eqT hA d4))
          · rename_i d4
            conv => cbv
            split
            · rename_i d5
              conv => cbv
              exact spc hN hD hU (.inr (.inl (eqT hA d5)))
            · rename_i d5
              conv => cbv
              split
              · rename_i d6
                conv => cbv
                exact spc hN hD hU (.inr (.inr (.inl (eqT hA d6))))
              · rename_i d6
                conv => cbv
                split
                · rename_i d7
                  conv => cbv
                  exact spc hN hD hU (.inr (.inr (.inr (eqT hA d7))))
                · rename_i d7
                  have hS : ¬ (c = 32 ∨ c = 9 ∨ c = 10 ∨ c = 13) := by have := eqF hA d4; have := eqF hA d5; have := eqF hA d6; have := eqF hA d7; omega
                  conv => cbv
                  refine call_intro hA hidx ?_
                  conv => cbv
                  split
                  · rename_i d8
                    conv => cbv
                    rw [← rest4 hN hD hU hS, if_pos (leT hA d8)]
                  · rename_i d8
                    conv => cbv
                    rw [← rest4 hN hD hU hS, if_neg (by have := leF hA d8; omega)]
end Go.Abs

namespace Go.Abs
open Go.RowKit Go.Proofs

def byteAt (s : ByteArray) (i : Nat) : Int := ((s.data.toList.getD i 0).toNat : Int)
def okC (c : Int) : Bool := decide (c = 2) || decide (c = 3) || decide (c = 5)
def nameB (s : ByteArray) : Bool := !decide (s.size = 0) && decide ((s.size : Int) ≤ 32) && decide (classI (byteAt s 0) = 2) && (List.range s.size).all fun i => okC (classI (byteAt s i))

section
variable {A : Ops} {E : Env}
theorem seqT (hA : A = stdOps E) {a b : ByteArray} (h : A.sEq a b = true) : a = b := by subst hA; simpa [stdOps] using h
theorem seqF (hA : A = stdOps E) {a b : ByteArray} (h : A.sEq a b = false) : a ≠ b := by subst hA; simpa [stdOps] using h
theorem szI (hA : A = stdOps E) (s : ByteArray) : A.sSize s = (s.size : Int) := by subst hA; rfl
theorem byI (hA : A = stdOps E) (s : ByteArray) (n : Int) : A.sByte s n = byteAt s n.toNat := by subst hA; rfl
end
theorem ba_nil {s : ByteArray} (h : s.size = 0) : s = ⟨#[]⟩ := by
  obtain ⟨d⟩ := s
  have h' : d.size = 0 := h
  rw [Array.size_eq_zero_iff.1 h']
theorem lex_byte {A : Ops} {E : Env} (hA : A = stdOps E) (s : ByteArray) (n : Int) : CallsPV Tryz.prog 126 [.int .u8 (A.sByte s n)] (.int .i64 (classI (byteAt s n.toNat))) := by
  rw [byI hA]; exact lex_class _

theorem nameB_no {s : ByteArray} {i : Nat} (hi : i < s.size) (h : okC (classI (byteAt s i)) = false) : nameB s = false := by
  have : ((List.range s.size).all fun i => okC (classI (byteAt s i))) = false := by
    rw [List.all_eq_false]
    exact ⟨i, List.mem_range.2 hi, by rw [h]; decide⟩
  rw [nameB, this, Bool.and_false]

theorem lex_Name (s : ByteArray) : CallsPV Tryz.prog 51 [.str s] (.bool (nameB s)) := by
  refine callsPV_by (clo := fun _ => false) (rows := false) env_ok Tryz.func51 rfl (enters_of Tryz.func51 (by kernel_rfl) rfl) (fun A q P Y hr hA hq => ?_)
  conv => cbv
  split
  · rename_i h
    conv => cbv
    rw [← hq, nameB, seqT hA h]; rfl
  rename_i h1
  have h1' : s.size ≠ 0 := fun e => seqF hA h1 (ba_nil e)
  conv => cbv
  split
  · rename_i h
    have h' := ltT' hA rfl (szI hA s) h
    conv => cbv
    rw [← hq, nameB, decide_eq_false (p := (s.size : Int) ≤ 32) (by omega)]; simp
  rename_i h2
  have h2' : (s.size : Int) ≤ 32 := ltF' hA rfl (szI hA s) h2
  conv => cbv
  refine ⟨withI hA (szI hA s) (by omega) (by omega), ?_⟩
  conv => cbv
  refine callI hA (lex_byte hA s 0) rfl (fun c hc => ?_)
  conv => cbv
  split
  · rename_i h
    have h' : classI (byteAt s 0) ≠ 2 := fun e => neT hA h (hc.trans e)
    conv => cbv
    rw [← hq, nameB, decide_eq_false (p := classI (byteAt s 0) = 2) h']; simp
  rename_i h3
  have h3' : classI (byteAt s 0) = 2 := hc.symm.trans (neF hA h3)
  clear hc
  conv => cbv
  refine loop_set hA (fun (i : Int) s => s.put (some 20) (.val (.int .i64 i))) (fun i => 0 ≤ i ∧ i ≤ (s.size : Int) ∧ (fun i => ∀ k, k < i.toNat → okC (classI (byteAt s k)) = true) i) (fun i => ((s.size : Int) - i).toNat) 0 ?_ ?_ ?_
  · conv => cbv
    exact wk_sl (by repeat (first | refine leL_same ?_ | refine leL_any ?_ | exact leL_nil))
  · exact ⟨Int.le_refl _, by omega, by simp⟩
  rintro R i ⟨hi0, hi1, hi2⟩ hRi
  conv => cbv
  split
  ·   rename_i hc
      have hi : i < (s.size : Int) := ltT' hA rfl (szI hA s) hc
      have his : A.iAdd i 1 = i + 1 := addI hA _ _
      have hir : A.inR (A.iAdd i 1) := inR' hA his (by unfold inI64; omega)
      have him : ((s.size : Int) - A.iAdd i 1).toNat < ((s.size : Int) - i).toNat := by rw [his]; omega
      have hin : (fun i => ∀ k, k < i.toNat → okC (classI (byteAt s k)) = true) (i + 1) → 0 ≤ A.iAdd i 1 ∧ A.iAdd i 1 ≤ (s.size : Int) ∧ (fun i => ∀ k, k < i.toNat → okC (classI (byteAt s k)) = true) (A.iAdd i 1) := fun h => by rw [his]; exact ⟨by omega, by omega, h⟩
      simp only at hin
      conv => cbv
      refine ⟨withI hA (szI hA s) hi0 hi, ?_⟩
      conv => cbv
      refine callI hA (lex_byte hA s i) rfl (fun b hb => ?_)
      conv => cbv
      have good : (b = 2 ∨ b = 3 ∨ b = 5) → ∀ k, k < (i + 1).toNat → okC (classI (byteAt s k)) = true := fun h k hk => by
        rcases Nat.lt_or_eq_of_le (Nat.le_of_lt_succ (show k < i.toNat + 1 by omega)) with h1 | h1
        · exact hi2 k h1
        · rw [h1, ← hb, okC]; rcases h with h | h | h <;> rw [h] <;> rfl
      split
      · rename_i c1
        conv => cbv
        split
        · rename_i c2
          conv => cbv
          split
          · rename_i c3
            conv => cbv
            rw [← hq, nameB_no (i := i.toNat) (by omega) (by rw [← hb, okC, decide_eq_false (neT hA c1), decide_eq_false (neT hA c2), decide_eq_false (neT hA c3)]; rfl)]
          · rename_i c3
            conv => cbv
            exact ⟨hir, hRi (A.iAdd i 1) _ (by (conv => cbv); exact wk_sl (by repeat (first | refine leL_same ?_ | refine leL_any ?_ | exact leL_nil))) (hin (good (.inr (.inr (neF hA c3))))) him⟩
        · rename_i c2
          conv => cbv
          exact ⟨hir, hRi (A.iAdd i 1) _ (by (conv => cbv); exact wk_sl (by repeat (first | refine leL_same ?_ | refine leL_any ?_ | exact leL_nil))) (hin (good (.inr (.inl (neF hA c2))))) him⟩
      · rename_i c1
        conv => cbv
        exact ⟨hir, hRi (A.iAdd i 1) _ (by (conv => cbv); exact wk_sl (by repeat (first | refine leL_same ?_ | refine leL_any ?_ | exact leL_nil))) (hin (good (.inl (neF hA c1)))) him⟩
  rename_i hc
  have hi : i = (s.size : Int) := by have := ltF' hA rfl (szI hA s) hc; omega
  conv => cbv
  rw [← hq, nameB, decide_eq_false h1', decide_eq_true h2', decide_eq_true h3']
  have : ((List.range s.size).all fun i => okC (classI (byteAt s i))) = true := by
    rw [List.all_eq_true]
    intro k hk
    exact hi2 k (by have := List.mem_range.1 hk; omega)
  rw [this]; rfl
end Go.Abs

namespace Go.Abs
open Go.RowKit Go.Proofs

def letterB (c : Int) : Bool := decide (97 ≤ c ∧ c ≤ 122) || decide (65 ≤ c ∧ c ≤ 90)
def figureB (c : Int) : Bool := decide (48 ≤ c ∧ c ≤ 57)
def partB (c : Int) : Bool := letterB c || figureB c || decide (c = 95)
theorem letterB_iff (c : Int) : letterB c = decide (classI c = 2) := by
  unfold letterB classI
  rw [Bool.eq_iff_iff]
  simp only [Bool.or_eq_true, decide_eq_true_eq]
  constructor
  · intro h; rw [if_pos h]
  · intro h
    by_cases h1 : (97 ≤ c ∧ c ≤ 122) ∨ (65 ≤ c ∧ c ≤ 90)
    · exact h1
    · rw [if_neg h1] at h
      repeat' split at h
      all_goals cases h
theorem partB_iff (c : Int) : partB c = okC (classI c) := by
  unfold partB letterB figureB okC classI
  rw [Bool.eq_iff_iff]
  simp only [Bool.or_eq_true, decide_eq_true_eq]
  by_cases h1 : (97 ≤ c ∧ c ≤ 122) ∨ (65 ≤ c ∧ c ≤ 90)
  · rw [if_pos h1]; simp [h1]
  · rw [if_neg h1]
    by_cases h2 : 48 ≤ c ∧ c ≤ 57
    · rw [if_pos h2]; simp [h2]
    · rw [if_neg h2]
      by_cases h3 : c = 95
      · rw [if_pos h3]; simp [h3]
      · rw [if_neg h3]
        simp only [h1, h2, h3, or_self, false_iff]
        repeat' split
        all_goals simp

theorem iLeI {A : Ops} {E : Env} (hA : A = stdOps E) (a b : Int) : A.iLe a b = decide (a ≤ b) := by subst hA; rfl

theorem ref07_Letter (c : Int) : CallsPV Tryz.prog 297 [.int .u8 c] (.bool (letterB c)) := by
  refine callsPV_by (clo := fun _ => false) (rows := false) env_ok Tryz.func297 rfl (enters_of Tryz.func297 (by kernel_rfl) rfl) (fun A q P Y hr hA hq => ?_)
  have fin : ∀ b : Bool, (b = true ↔ (97 ≤ c ∧ c ≤ 122) ∨ (65 ≤ c ∧ c ≤ 90)) → PV.bool b = q := fun b h => by
    rw [← hq]; congr 1; rw [Bool.eq_iff_iff, h]; simp [letterB]
  conv => cbv
  split
  · rename_i h1
    have h1' := leT hA h1
    conv => cbv
    split
    · rename_i h2
      have h2' := leT hA h2
      conv => cbv
      exact fin _ ⟨fun _ => by omega, fun _ => rfl⟩
    · rename_i h2
      have h2' := leF hA h2
      conv => cbv
      split
      · rename_i h3
        conv => cbv
        refine fin (A.iLe c 90) ?_
        rw [iLeI hA, decide_eq_true_iff]; omega
      · rename_i h3
        have h3' := leF hA h3
        conv => cbv
        exact fin _ ⟨fun h => Bool.noConfusion h, fun h => by omega⟩
  · rename_i h1
    have h1' := leF hA h1
    conv => cbv
    split
    · rename_i h3
      have h3' := leT hA h3
      conv => cbv
      refine fin (A.iLe c 90) ?_
      rw [iLeI hA, decide_eq_true_iff]; omega
    · rename_i h3
      have h3' := leF hA h3
      conv => cbv
      exact fin _ ⟨fun h => Bool.noConfusion h, fun h => by omega⟩

theorem ref07_Figure (c : Int) : CallsPV Tryz.prog 306 [.int .u8 c] (.bool (figureB c)) := by
  refine callsPV_by (clo := fun _ => false) (rows := false) env_ok Tryz.func306 rfl (enters_of Tryz.func306 (by kernel_rfl) rfl) (fun A q P Y hr hA hq => ?_)
  have fin : ∀ b : Bool, (b = true ↔ (48 ≤ c ∧ c ≤ 57)) → PV.bool b = q := fun b h => by
    rw [← hq]; congr 1; rw [Bool.eq_iff_iff, h]; simp [figureB]
  conv => cbv
  split
  · rename_i h1
    have h1' := leT hA h1
    conv => cbv
    refine fin (A.iLe c 57) ?_
    rw [iLeI hA, decide_eq_true_iff]; omega
  · rename_i h1
    have h1' := leF hA h1
    conv => cbv
    exact fin _ ⟨fun h => Bool.noConfusion h, fun h => by omega⟩

theorem ref07_part (c : Int) : CallsPV Tryz.prog 298 [.int .u8 c] (.bool (partB c)) := by
  refine callsPV_by (clo := fun _ => false) (rows := false) env_ok Tryz.func298 rfl (enters_of Tryz.func298 (by kernel_rfl) rfl) (fun A q P Y hr hA hq => ?_)
  have h1 := ref07_Letter c
  have h2 := ref07_Figure c
  have hP : partB c = (letterB c || figureB c || decide (c = 95)) := rfl
  rw [hP] at hq
  generalize letterB c = b1 at h1 hq
  generalize figureB c = b2 at h2 hq
  conv => cbv
  refine call_intro hA (h1) ?_
  conv => cbv
  cases b1 with
  | true =>
    conv => cbv
    exact hq
  | false =>
    conv => cbv
    refine call_intro hA (h2) ?_
    conv => cbv
    cases b2 with
    | true =>
      conv => cbv
      exact hq
    | false =>
      conv => cbv
      refine Eq.trans ?_ hq
      show PV.bool (A.iEq c 95) = _
      rw [iEqI hA]; rfl

theorem ref07_byte1 {A : Ops} {E : Env} (hA : A = stdOps E) (s : ByteArray) (n : Int) : CallsPV Tryz.prog 297 [.int .u8 (A.sByte s n)] (.bool (letterB (byteAt s n.toNat))) := by
  rw [byI hA]; exact ref07_Letter _
theorem ref07_byte2 {A : Ops} {E : Env} (hA : A = stdOps E) (s : ByteArray) (n : Int) : CallsPV Tryz.prog 298 [.int .u8 (A.sByte s n)] (.bool (partB (byteAt s n.toNat))) := by
  rw [byI hA]; exact ref07_part _

theorem ref07_Name (s : ByteArray) : CallsPV Tryz.prog 285 [.str s] (.bool (nameB s)) := by
  refine callsPV_by (clo := fun _ => false) (rows := false) env_ok Tryz.func285 rfl (enters_of Tryz.func285 (by kernel_rfl) rfl) (fun A q P Y hr hA hq => ?_)
  conv => cbv
  split
  · rename_i h
    have h' := ltT' hA (szI hA s) rfl h
    conv => cbv
    rw [← hq, nameB, decide_eq_true (p := s.size = 0) (by omega)]; rfl
  rename_i h1
  have h1' := ltF' hA (szI hA s) rfl h1
  conv => cbv
  split
  · rename_i h
    have h' := ltT' hA rfl (szI hA s) h
    conv => cbv
    rw [← hq, nameB, decide_eq_false (p := (s.size : Int) ≤ 32) (by omega)]; simp
  rename_i h2
  have h2' : (s.size : Int) ≤ 32 := ltF' hA rfl (szI hA s) h2
  conv => cbv
  refine ⟨withI hA (szI hA s) (by omega) (by omega), ?_⟩
  conv => cbv
  refine callB hA (ref07_byte1 hA s 0) rfl (fun c hc => ?_)
  conv => cbv
  rw [letterB_iff] at hc
  split
  · rename_i h
    have h' : classI (byteAt s 0) ≠ 2 := of_decide_eq_false (hc.symm.trans (notT hA h))
    conv => cbv
    rw [← hq, nameB, decide_eq_false (p := classI (byteAt s 0) = 2) h']; simp
  rename_i h3
  have h3' : classI (byteAt s 0) = 2 := of_decide_eq_true (hc.symm.trans (notF hA h3))
  clear hc
  conv => cbv
  refine loop_set hA (fun (i : Int) s => s.put (some 3) (.val (.int .i64 i))) (fun i => 0 ≤ i ∧ i ≤ (s.size : Int) ∧ (fun i => ∀ k, k < i.toNat → okC (classI (byteAt s k)) = true) i) (fun i => ((s.size : Int) - i).toNat) 0 ?_ ?_ ?_
  · conv => cbv
    exact wk_sl (by repeat (first | refine leL_same ?_ | refine leL_any ?_ | exact leL_nil))
  · exact ⟨Int.le_refl _, by omega, by simp⟩
  rintro R i ⟨hi0, hi1, hi2⟩ hRi
  conv => cbv
  split
  ·   rename_i hc
      have hi : i < (s.size : Int) := ltT' hA rfl (szI hA s) hc
      have his : A.iAdd i 1 = i + 1 := addI hA _ _
      have hir : A.inR (A.iAdd i 1) := inR' hA his (by unfold inI64; omega)
      have him : ((s.size : Int) - A.iAdd i 1).toNat < ((s.size : Int) - i).toNat := by rw [his]; omega
      have hin : (fun i => ∀ k, k < i.toNat → okC (classI (byteAt s k)) = true) (i + 1) → 0 ≤ A.iAdd i 1 ∧ A.iAdd i 1 ≤ (s.size : Int) ∧ (fun i => ∀ k, k < i.toNat → okC (classI (byteAt s k)) = true) (A.iAdd i 1) := fun h => by rw [his]; exact ⟨by omega, by omega, h⟩
      simp only at hin
      conv => cbv
      refine ⟨withI hA (szI hA s) hi0 hi, ?_⟩
      conv => cbv
      refine callB hA (ref07_byte2 hA s i) rfl (fun b hb => ?_)
      conv => cbv
      rw [partB_iff] at hb
      split
      · rename_i h
        conv => cbv
        rw [← hq, nameB_no (i := i.toNat) (by omega) (by rw [← hb]; exact notT hA h)]
      rename_i h
      have hb1 := notF hA h
      rw [hb1] at hb
      have nx : ∀ k, k < (i + 1).toNat → okC (classI (byteAt s k)) = true := fun k hk => by
        rcases Nat.lt_or_eq_of_le (Nat.le_of_lt_succ (show k < i.toNat + 1 by omega)) with h1 | h1
        · exact hi2 k h1
        · rw [h1]; exact hb.symm
      conv => cbv
      exact ⟨hir, hRi (A.iAdd i 1) _ (by (conv => cbv); exact wk_sl (by repeat (first | refine leL_same ?_ | refine leL_any ?_ | exact leL_nil))) (hin nx) him⟩
  rename_i hc
  have hi : i = (s.size : Int) := by have := ltF' hA rfl (szI hA s) hc; omega
  conv => cbv
  rw [← hq, nameB, decide_eq_false (p := s.size = 0) (by omega), decide_eq_true h2', decide_eq_true h3']
  have : ((List.range s.size).all fun i => okC (classI (byteAt s i))) = true := by
    rw [List.all_eq_true]
    intro k hk
    exact hi2 k (by have := List.mem_range.1 hk; omega)
  rw [this]; rfl
end Go.Abs
