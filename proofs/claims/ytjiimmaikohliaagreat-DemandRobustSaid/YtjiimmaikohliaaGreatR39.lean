/-
  References: ref20.Few, Formed, sum, formed, Add, Interval.
-/
import Derived.Test.YtjiimmaikohliaaGreatR38
set_option linter.unusedVariables false
set_option linter.unusedSimpArgs false
namespace Go.Abs
open Go.RowKit Go.Proofs

def few20U (ls : List (List Use)) : Bool := decide (ls.length ≤ 12) && decide (ls.flatten.length ≤ 300)
theorem flat_len_le {α : Type} {l : List (List α)} {n : Nat} (h : ∀ L ∈ l, L.length ≤ n) : l.flatten.length ≤ l.length * n := flat_le h
theorem ref20_Few (ls : List (List Use)) (hb : ∀ l ∈ ls, l.length ≤ 8796093022208) {xs : List PV} (hx : xs = encUseLs ls) : CallsPV Tryz.prog 17 [.list 1 xs] (.bool (few20U ls)) := by
  refine callsPV_by (clo := fun n => n == 11000000) (rows := false) env_ok Tryz.func17 rfl (enters_of Tryz.func17 (by kernel_rfl) rfl) (fun A q P Y hr hA hq => ?_)
  have hxl : xs.length = ls.length := by rw [hx]; simp [encUseLs]
  have hlen : ls.length ≤ 9223372036854775807 := by have := (hr.mem (p := .list 1 xs) (by simp)).len; omega
  conv => cbv
  refine loop_set hA (fun (z : Int × Int) s => (s.put (some 4) (.val (.int .i64 z.1))).put (some 3) (.val (.int .i64 z.2))) (fun z => 0 ≤ z.1 ∧ z.1 ≤ ls.length ∧ (z.1 ≤ 12 → z.2 = ((ls.take z.1.toNat).flatten.length : Int))) (fun z => (ls.length - z.1).toNat) (0, 0) ?_ ?_ ?_
  · conv => cbv
    exact wk_sl (by repeat (first | refine leL_same ?_ | refine leL_any ?_ | exact leL_nil))
  · exact ⟨Int.le_refl _, by omega, by simp⟩
  rintro R ⟨i, n⟩ ⟨hi0, hi1, hn⟩ hR
  simp only at hi0 hi1 hn
  conv => cbv
  split
  rotate_left
  · rename_i hc
    have hge : (ls.length : Int) ≤ i := ltF' hA rfl (lenI hA hxl) hc
    rw [List.take_of_length_le (by omega)] at hn
    unfold few20U at hq
    conv => cbv
    split
    · rename_i hc
      have g := leT' hA (lenI hA hxl) rfl hc
      have hn := hn (by omega)
      conv => cbv
      rw [← hq, decide_eq_true (by omega), Bool.true_and]
      congr 1
      subst hA
      show decide (n ≤ 300) = _
      rw [hn, decide_eq_decide]
      omega
    · rename_i hc
      have g := leF' hA (lenI hA hxl) rfl hc
      conv => cbv
      rw [← hq, decide_eq_false (by omega), Bool.false_and]
  rename_i hc
  have hi : i < ls.length := ltT' hA rfl (lenI hA hxl) hc
  have his : A.wOp .add .i64 i 1 = i + 1 := wadd hA (by unfold inI64; omega)
  conv => cbv
  refine idx_UseL hA hx hi0 hi (fun x v hx0 hv => ?_)
  have htk := take_flat hi0 hx0
  have hvl : v.length = x.length := by rw [hv, encUses_len]
  have hxb := hb x (List.mem_of_getElem? hx0)
  have hPl : (ls.take i.toNat).flatten.length ≤ i.toNat * 8796093022208 := by
    have := flat_len_le (l := ls.take i.toNat) (n := 8796093022208) fun L hL => hb L (List.mem_of_mem_take hL)
    rw [List.length_take] at this
    refine Nat.le_trans this (Nat.mul_le_mul_right _ ?_)
    omega
  have hns : i + 1 ≤ 12 → A.wOp .add .i64 n (A.lLen v) = ((ls.take (i + 1).toNat).flatten.length : Int) := fun h => by
    have hn := hn (by omega)
    rw [show A.lLen v = (x.length : Int) from lenI hA hvl, wadd hA (by unfold inI64; omega), hn, htk, List.length_append]
    omega
  conv => cbv
  refine hR (A.wOp .add .i64 i 1, A.wOp .add .i64 n (A.lLen v)) _ ?_ ?_ ?_
  · conv => cbv
    exact wk_sl (by repeat (first | refine leL_same ?_ | refine leL_any ?_ | exact leL_nil))
  · rw [his]; exact ⟨by show 0 ≤ i + 1; omega, by show i + 1 ≤ _; omega, hns⟩
  · rw [his]; simp only; omega

set_option maxRecDepth 40000 in
set_option maxHeartbeats 4000000 in
theorem ref20_Formed (l : List Use) {xs : List PV} (hx : xs = encUses l) : CallsPV Tryz.prog 55 [.list 4 xs] (.bool (!badB l)) := by
  refine callsPV_by (clo := fun _ => false) (rows := false) env_ok Tryz.func55 rfl (enters_of Tryz.func55 (by kernel_rfl) rfl) (fun A q P Y hr hA hq => ?_)
  have hxl : xs.length = l.length := by rw [hx, encUses_len]
  have hlen : l.length ≤ 9223372036854775807 := by have := (hr.mem (p := .list 4 xs) (by simp)).len; omega
  have hbad : ¬ formed1 l → PV.bool false = q := fun h => by rw [← hq]; unfold badB; rw [@decide_eq_true _ (Classical.propDecidable _) h]; rfl
  have hgood : formed1 l → PV.bool true = q := fun h => by rw [← hq]; unfold badB; rw [@decide_eq_false _ (Classical.propDecidable _) (fun h2 => h2 h)]; rfl
  clear hq
  conv => cbv
  refine loop_set hA (fun (i : Int) s => s.put (some 3) (.val (.int .i64 i))) (fun i => 0 ≤ i ∧ i ≤ (l.length : Int) ∧ (fun i => (∀ u ∈ l.take i.toNat, useOk u = true) ∧ ∀ (k : Nat) (x y : Use), (k : Int) + 1 < i → l[k]? = some x → l[k + 1]? = some y → cmpC x.Cell y.Cell < 0) i) (fun i => ((l.length : Int) - i).toNat) 0 ?_ ?_ ?_
  · conv => cbv
    exact wk_sl (by repeat (first | refine leL_same ?_ | refine leL_any ?_ | exact leL_nil))
  · exact ⟨Int.le_refl _, by omega, by constructor; simp; intro k x y h; omega⟩
  rintro R i ⟨hi0, hi1, hi2⟩ hRi
  conv => cbv
  split
  ·   rename_i hc
      have hi : i < (l.length : Int) := ltT' hA rfl (lenI hA hxl) hc
      have his : A.iAdd i 1 = i + 1 := addI hA _ _
      have hir : A.inR (A.iAdd i 1) := inR' hA his (by unfold inI64; omega)
      have him : ((l.length : Int) - A.iAdd i 1).toNat < ((l.length : Int) - i).toNat := by rw [his]; omega
      have hin : (fun i => (∀ u ∈ l.take i.toNat, useOk u = true) ∧ ∀ (k : Nat) (x y : Use), (k : Int) + 1 < i → l[k]? = some x → l[k + 1]? = some y → cmpC x.Cell y.Cell < 0) (i + 1) → 0 ≤ A.iAdd i 1 ∧ A.iAdd i 1 ≤ (l.length : Int) ∧ (fun i => (∀ u ∈ l.take i.toNat, useOk u = true) ∧ ∀ (k : Nat) (x y : Use), (k : Int) + 1 < i → l[k]? = some x → l[k + 1]? = some y → cmpC x.Cell y.Cell < 0) (A.iAdd i 1) := fun h => by rw [his]; exact ⟨by omega, by omega, h⟩
      simp only at hin
      conv => cbv
      obtain ⟨hi3, hi4⟩ := hi2
      refine ⟨draw_intro hA (by kernel_rfl), ?_⟩
      refine idx_Use hA hx hi0 hi (fun x hx0 => ?_)
      have ht := take_snoc' hi0 hx0
      have hm := List.mem_of_getElem? hx0
      have hxx := hx0
      obtain ⟨⟨x1, x2, x3⟩, x4⟩ := x
      have hbu : useOk ⟨⟨x1, x2, x3⟩, x4⟩ = false → PV.bool false = q := fun h => hbad fun hf => by have := hf.1 _ hm; rw [h] at this; cases this
      conv => cbv
      split
      · rename_i hc
        conv => cbv
        exact hbu (by have := ltT hA hc; unfold useOk; simp; omega)
      rename_i g1; replace g1 := ltF hA g1
      conv => cbv
      refine idx_Use hA hx hi0 hi (fun z hz => ?_)
      rw [hxx] at hz
      cases hz
      conv => cbv
      split
      · rename_i hc
        conv => cbv
        exact hbu (by have := ltT hA hc; unfold useOk; simp; omega)
      rename_i g2; replace g2 := ltF hA g2
      have hux : useOk ⟨⟨x1, x2, x3⟩, x4⟩ = true := by unfold useOk; simp; omega
      have hnx : (∀ c, l[(i - 1).toNat]? = some c → 0 < i → cmpC c.Cell ⟨x1, x2, x3⟩ < 0) → (∀ x ∈ l.take (i + 1).toNat, useOk x = true) ∧ ∀ (k : Nat) (x y : Use), (k : Int) + 1 < i + 1 → l[k]? = some x → l[k + 1]? = some y → cmpC x.Cell y.Cell < 0 := fun h => by
        refine ⟨mem_snoc ht hi3 hux, fun k x y hk hx hy => ?_⟩
        by_cases e : (k : Int) + 1 < i
        · exact hi4 k x y e hx hy
        · have e1 : k + 1 = i.toNat := by omega
          rw [e1, hx0] at hy
          cases hy
          exact h x (by rw [show (i - 1).toNat = k by omega]; exact hx) (by omega)
      conv => cbv
      split
      · rename_i hc
        have g3 := ltT hA hc
        have hsub : A.iSub i 1 = i - 1 := subI hA _ _
        conv => cbv
        refine ⟨inR' hA hsub (by unfold inI64; omega), ?_⟩
        conv => cbv
        refine idx_Use hA hx (n := A.iSub i 1) (by rw [hsub]; omega) (by rw [hsub]; omega) (fun y hy => ?_)
        rw [hsub] at hy
        obtain ⟨⟨y1, y2, y3⟩, y4⟩ := y
        have hcall := ref20_Compare ⟨y1, y2, y3⟩ ⟨x1, x2, x3⟩
        have hyf : cmpC ⟨y1, y2, y3⟩ ⟨x1, x2, x3⟩ < 0 ∨ PV.bool false = q ∧ 0 ≤ cmpC ⟨y1, y2, y3⟩ ⟨x1, x2, x3⟩ := by
          rcases Int.lt_or_le (cmpC ⟨y1, y2, y3⟩ ⟨x1, x2, x3⟩) 0 with h | h
          · exact .inl h
          · refine .inr ⟨hbad (fun h2 => ?_), h⟩
            have := h2.2 (i - 1).toNat _ _ hy (by rw [show (i - 1).toNat + 1 = i.toNat by omega]; exact hx0)
            simp only at this
            omega
        have hnx2 : cmpC ⟨y1, y2, y3⟩ ⟨x1, x2, x3⟩ < 0 → _ := fun h => hnx (fun c h1 _ => by rw [hy] at h1; cases h1; exact h)
        generalize cmpC ⟨y1, y2, y3⟩ ⟨x1, x2, x3⟩ = r at hcall hyf hnx2
        conv => cbv
        refine idx_Use hA hx hi0 hi (fun z hz => ?_)
        rw [hxx] at hz
        cases hz
        conv => cbv
        refine call_intro hA (hcall) ?_
        conv => cbv
        split
        · rename_i hc
          have g4 := leT hA hc
          conv => cbv
          exact hyf.elim (fun h => by omega) (fun h => h.1)
        rename_i g4; replace g4 := leF hA g4
        conv => cbv
        exact ⟨hir, hRi (A.iAdd i 1) _ (by (conv => cbv); exact wk_sl (by repeat (first | refine leL_same ?_ | refine leL_any ?_ | exact leL_nil))) (hin (hnx2 g4)) him⟩
      · rename_i hc
        have g3 := ltF hA hc
        conv => cbv
        exact ⟨hir, hRi (A.iAdd i 1) _ (by (conv => cbv); exact wk_sl (by repeat (first | refine leL_same ?_ | refine leL_any ?_ | exact leL_nil))) (hin (hnx (fun c h1 h2 => by omega))) him⟩
  rename_i hc
  have hi : i = (l.length : Int) := by have := ltF' hA rfl (lenI hA hxl) hc; omega
  conv => cbv
  exact hgood ⟨take_all hi hi2.1, fun k x y hx hy => hi2.2 k x y (by have := (List.getElem?_eq_some_iff.1 hy).1; omega) hx hy⟩

theorem ref20_formed (ls : List (List Use)) {xs : List PV} (hx : xs = encUseLs ls) : CallsPV Tryz.prog 40 [.list 1 xs] (.bool (!ls.any badB)) := by
  refine callsPV_by (clo := fun _ => false) (rows := false) env_ok Tryz.func40 rfl (enters_of Tryz.func40 (by kernel_rfl) rfl) (fun A q P Y hr hA hq => ?_)
  have hxl : xs.length = ls.length := by rw [hx]; simp [encUseLs]
  have hlen : ls.length ≤ 9223372036854775807 := by have := (hr.mem (p := .list 1 xs) (by simp)).len; omega
  have hbad : ∀ l ∈ ls, badB l = true → PV.bool false = q := fun l hl h => by rw [← hq, List.any_eq_true.2 ⟨l, hl, h⟩]; rfl
  have hgood : (∀ l ∈ ls, badB l = false) → PV.bool true = q := fun h => by rw [← hq, List.any_eq_false.2 (fun l hl => by rw [h l hl]; simp)]; rfl
  clear hq
  conv => cbv
  refine loop_set hA (fun (i : Int) s => s.put (some 3) (.val (.int .i64 i))) (fun i => 0 ≤ i ∧ i ≤ (ls.length : Int) ∧ (fun i => ∀ l ∈ ls.take i.toNat, badB l = false) i) (fun i => ((ls.length : Int) - i).toNat) 0 ?_ ?_ ?_
  · conv => cbv
    exact wk_sl (by repeat (first | refine leL_same ?_ | refine leL_any ?_ | exact leL_nil))
  · exact ⟨Int.le_refl _, by omega, by simp⟩
  rintro R i ⟨hi0, hi1, hi2⟩ hRi
  conv => cbv
  split
  ·   rename_i hc
      have hi : i < (ls.length : Int) := ltT' hA rfl (lenI hA hxl) hc
      have his : A.iAdd i 1 = i + 1 := addI hA _ _
      have hir : A.inR (A.iAdd i 1) := inR' hA his (by unfold inI64; omega)
      have him : ((ls.length : Int) - A.iAdd i 1).toNat < ((ls.length : Int) - i).toNat := by rw [his]; omega
      have hin : (fun i => ∀ l ∈ ls.take i.toNat, badB l = false) (i + 1) → 0 ≤ A.iAdd i 1 ∧ A.iAdd i 1 ≤ (ls.length : Int) ∧ (fun i => ∀ l ∈ ls.take i.toNat, badB l = false) (A.iAdd i 1) := fun h => by rw [his]; exact ⟨by omega, by omega, h⟩
      simp only at hin
      conv => cbv
      refine idx_UseL hA hx hi0 hi (fun x v hx0 hv => ?_)
      have ht := take_snoc' hi0 hx0
      have hbx := hbad x (List.mem_of_getElem? hx0)
      have hf := ref20_Formed x hv
      cases hb : badB x with
      | true =>
        rw [hb] at hf
        have hf2 : CallsPV Tryz.prog 55 [.list 4 v] (.bool false) := hf
        conv => cbv
        refine call_intro hA (hf2) ?_
        conv => cbv
        split
        rotate_left
        · rename_i hc
          cases ((nF hA hc))
        conv => cbv
        exact hbx hb
      | false =>
        rw [hb] at hf
        have hf2 : CallsPV Tryz.prog 55 [.list 4 v] (.bool true) := hf
        conv => cbv
        refine call_intro hA (hf2) ?_
        conv => cbv
        split
        · rename_i hc
          cases ((nT hA hc))
        conv => cbv
        exact ⟨hir, hRi (A.iAdd i 1) _ (by (conv => cbv); exact wk_sl (by repeat (first | refine leL_same ?_ | refine leL_any ?_ | exact leL_nil))) (hin (mem_snoc ht hi2 hb)) him⟩
  rename_i hc
  have hi : i = (ls.length : Int) := by have := ltF' hA rfl (lenI hA hxl) hc; omega
  conv => cbv
  exact hgood (take_all hi hi2)
end Go.Abs
