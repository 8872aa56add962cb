/-
  Functions: demand.Compare, bad; ref20.Compare and the like.
-/
import Derived.Test.YtjiimmaikohliaaGreatF40
import Derived.Test.YtjiimmaikohliaaGreatF22
set_option linter.unusedVariables false
set_option linter.unusedSimpArgs false
namespace Go.Abs
open Go.RowKit Go.Proofs

def cmpC (a b : Cell) : Int := orI [cmpI (rankB a.Airport) (rankB b.Airport), cmpI a.Index b.Index, cmpI a.Minute b.Minute]

theorem dm_Compare1 (c : Cell) : CallsPV Tryz.prog 42 [encCell c] (.int .i64 (rankB c.Airport)) := by
  refine callsPV_by (clo := fun _ => false) (rows := false) env_ok Tryz.func42 rfl (enters_of Tryz.func42 (by kernel_rfl) rfl) (fun A q P Y hr hA hq => ?_)
  obtain ⟨c1, c2, c3⟩ := c
  cases c1 <;> (conv => cbv) <;> exact hq

theorem dm_Compare (a b : Cell) : CallsPV Tryz.prog 22 [encCell a, encCell b] (.int .i64 (cmpC a b)) := by
  refine callsPV_by (clo := fun _ => false) (rows := false) env_ok Tryz.func22 rfl (enters_of Tryz.func22 (by kernel_rfl) rfl) (fun A q P Y hr hA hq => ?_)
  have r1 := dm_Compare1 a
  have r2 := dm_Compare1 b
  obtain ⟨a1, a2, a3⟩ := a
  obtain ⟨b1, b2, b3⟩ := b
  have hC : cmpC ⟨a1, a2, a3⟩ ⟨b1, b2, b3⟩ = orI [cmpI (rankB a1) (rankB b1), cmpI a2 b2, cmpI a3 b3] := rfl
  rw [hC] at hq
  simp only at r1 r2
  generalize rankB a1 = p1 at r1 hq
  generalize rankB b1 = p2 at r2 hq
  have c1 := cmp_Compare p1 p2
  have c2 := cmp_Compare a2 b2
  have c3 := cmp_Compare a3 b3
  generalize cmpI p1 p2 = n1 at c1 hq
  generalize cmpI a2 b2 = n2 at c2 hq
  generalize cmpI a3 b3 = n3 at c3 hq
  have c4 := cmp_Or [n1, n2, n3] rfl
  generalize orI [n1, n2, n3] = n4 at c4 hq
  conv => cbv
  refine ⟨draw_intro hA (by kernel_rfl), ?_⟩
  refine call_intro hA r1 ?_
  conv => cbv
  refine call_intro hA r2 ?_
  conv => cbv
  refine call_intro hA c1 ?_
  conv => cbv
  refine call_intro hA c2 ?_
  conv => cbv
  refine call_intro hA c3 ?_
  conv => cbv
  refine call_intro hA c4 ?_
  conv => cbv
  exact hq

/-- Is a list of uses formed? -/
def useOk (u : Use) : Bool := decide (1 ≤ u.Places) && decide (u.Places ≤ 4096)
def formed1 (l : List Use) : Prop := (∀ u ∈ l, useOk u = true) ∧ ∀ (k : Nat) (x y : Use), l[k]? = some x → l[k + 1]? = some y → cmpC x.Cell y.Cell < 0
noncomputable def badB (l : List Use) : Bool := @decide (¬ formed1 l) (Classical.propDecidable _)

theorem encUses_len (l : List Use) : (encUses l).length = l.length := by simp [encUses]
set_option maxHeartbeats 4000000 in
theorem dm_bad (l : List Use) {xs : List PV} (hx : xs = encUses l) : CallsPV Tryz.prog 52 [.list 4 xs] (.bool (badB l)) := by
  refine callsPV_by (clo := fun _ => false) (rows := false) env_ok Tryz.func52 rfl (enters_of Tryz.func52 (by kernel_rfl) rfl) (fun A q P Y hr hA hq => ?_)
  have hxl : xs.length = l.length := by rw [hx, encUses_len]
  have hlen : l.length ≤ 9223372036854775807 := by have := (hr.mem (p := .list 4 xs) (by simp)).len; omega
  have hbad : ¬ formed1 l → PV.bool true = q := fun h => by rw [← hq]; unfold badB; rw [@decide_eq_true _ (Classical.propDecidable _) h]
  have hgood : formed1 l → PV.bool false = q := fun h => by rw [← hq]; unfold badB; rw [@decide_eq_false _ (Classical.propDecidable _) (fun h2 => h2 h)]
  clear hq
  conv => cbv
  refine loop_set hA (fun (i : Int) s => s.put (some 7) (.val (.int .i64 i))) (fun i => 0 ≤ i ∧ i ≤ (l.length : Int) ∧ (fun i => (∀ u ∈ l.take i.toNat, useOk u = true) ∧ ∀ (k : Nat) (x y : Use), (k : Int) + 1 < i → l[k]? = some x → l[k + 1]? = some y → cmpC x.Cell y.Cell < 0) i) (fun i => ((l.length : Int) - i).toNat) 0 ?_ ?_ ?_
  · conv => cbv
    exact wk_sl (by repeat (first | refine leL_same ?_ | refine leL_any ?_ | exact leL_nil))
  · exact ⟨Int.le_refl _, by omega, by constructor; simp; intro k x y h; omega⟩
  rintro R i ⟨hi0, hi1, hi2⟩ hRi
  conv => cbv
  split
  ·   rename_i hc
      have hi : i < (l.length : Int) := ltT' hA rfl (lenI hA hxl) hc
      have his : A.iAdd i 1 = i + 1 := addI hA _ _
      have hir : A.inR (A.iAdd i 1) := inR' hA his (by unfold inI64; omega)
      have him : ((l.length : Int) - A.iAdd i 1).toNat < ((l.length : Int) - i).toNat := by rw [his]; omega
      have hin : (fun i => (∀ u ∈ l.take i.toNat, useOk u = true) ∧ ∀ (k : Nat) (x y : Use), (k : Int) + 1 < i → l[k]? = some x → l[k + 1]? = some y → cmpC x.Cell y.Cell < 0) (i + 1) → 0 ≤ A.iAdd i 1 ∧ A.iAdd i 1 ≤ (l.length : Int) ∧ (fun i => (∀ u ∈ l.take i.toNat, useOk u = true) ∧ ∀ (k : Nat) (x y : Use), (k : Int) + 1 < i → l[k]? = some x → l[k + 1]? = some y → cmpC x.Cell y.Cell < 0) (A.iAdd i 1) := fun h => by rw [his]; exact ⟨by omega, by omega, h⟩
      simp only at hin
      conv => cbv
      obtain ⟨hi3, hi4⟩ := hi2
      refine idx_Use hA hx hi0 hi (fun x hx0 => ?_)
      have ht := take_snoc' hi0 hx0
      have hm := List.mem_of_getElem? hx0
      obtain ⟨⟨x1, x2, x3⟩, x4⟩ := x
      have hbu : useOk ⟨⟨x1, x2, x3⟩, x4⟩ = false → PV.bool true = q := fun h => hbad fun hf => by have := hf.1 _ hm; rw [h] at this; cases this
      conv => cbv
      refine ⟨draw_intro hA (by kernel_rfl), ?_⟩
      split
      · rename_i hc
        conv => cbv
        exact hbu (by have := ltT hA hc; unfold useOk; simp; omega)
      rename_i g1; replace g1 := ltF hA g1
      conv => cbv
      split
      · rename_i hc
        conv => cbv
        exact hbu (by have := ltT hA hc; unfold useOk; simp; omega)
      rename_i g2; replace g2 := ltF hA g2
      have hux : useOk ⟨⟨x1, x2, x3⟩, x4⟩ = true := by unfold useOk; simp; omega
      have hnx : (∀ c, l[(i - 1).toNat]? = some c → 0 < i → cmpC c.Cell ⟨x1, x2, x3⟩ < 0) → (∀ x ∈ l.take (i + 1).toNat, useOk x = true) ∧ ∀ (k : Nat) (x y : Use), (k : Int) + 1 < i + 1 → l[k]? = some x → l[k + 1]? = some y → cmpC x.Cell y.Cell < 0 := fun h => by
        refine ⟨mem_snoc ht hi3 hux, fun k x y hk hx hy => ?_⟩
        by_cases e : (k : Int) + 1 < i
        · exact hi4 k x y e hx hy
        · have e1 : k + 1 = i.toNat := by omega
          rw [e1, hx0] at hy
          cases hy
          exact h x (by rw [show (i - 1).toNat = k by omega]; exact hx) (by omega)
      conv => cbv
      split
      · rename_i hc
        have g3 := ltT hA hc
        have hsub : A.iSub i 1 = i - 1 := subI hA _ _
        conv => cbv
        refine ⟨inR' hA hsub (by unfold inI64; omega), ?_⟩
        conv => cbv
        refine idx_Use hA hx (n := A.iSub i 1) (by rw [hsub]; omega) (by rw [hsub]; omega) (fun y hy => ?_)
        rw [hsub] at hy
        obtain ⟨⟨y1, y2, y3⟩, y4⟩ := y
        have hcall := dm_Compare ⟨y1, y2, y3⟩ ⟨x1, x2, x3⟩
        have hyf : cmpC ⟨y1, y2, y3⟩ ⟨x1, x2, x3⟩ < 0 ∨ PV.bool true = q ∧ 0 ≤ cmpC ⟨y1, y2, y3⟩ ⟨x1, x2, x3⟩ := by
          rcases Int.lt_or_le (cmpC ⟨y1, y2, y3⟩ ⟨x1, x2, x3⟩) 0 with h | h
          · exact .inl h
          · refine .inr ⟨hbad (fun h2 => ?_), h⟩
            have := h2.2 (i - 1).toNat _ _ hy (by rw [show (i - 1).toNat + 1 = i.toNat by omega]; exact hx0)
            simp only at this
            omega
        have hnx2 : cmpC ⟨y1, y2, y3⟩ ⟨x1, x2, x3⟩ < 0 → _ := fun h => hnx (fun c h1 _ => by rw [hy] at h1; cases h1; exact h)
        generalize cmpC ⟨y1, y2, y3⟩ ⟨x1, x2, x3⟩ = r at hcall hyf hnx2
        conv => cbv
        refine call_intro hA (hcall) ?_
        conv => cbv
        split
        · rename_i hc
          have g4 := leT hA hc
          conv => cbv
          exact hyf.elim (fun h => by omega) (fun h => h.1)
        rename_i g4; replace g4 := leF hA g4
        conv => cbv
        exact ⟨hir, hRi (A.iAdd i 1) _ (by (conv => cbv); exact wk_round (bx := []) (bx' := [_]) (mp := []) (mp' := []) (by repeat (first | refine leL_same ?_ | refine leL_any ?_ | exact leL_nil)) (by simp) (by simp) rfl rfl) (hin (hnx2 g4)) him⟩
      · rename_i hc
        have g3 := ltF hA hc
        conv => cbv
        exact ⟨hir, hRi (A.iAdd i 1) _ (by (conv => cbv); exact wk_round (bx := []) (bx' := [_]) (mp := []) (mp' := []) (by repeat (first | refine leL_same ?_ | refine leL_any ?_ | exact leL_nil)) (by simp) (by simp) rfl rfl) (hin (hnx (fun c h1 h2 => by omega))) him⟩
  rename_i hc
  have hi : i = (l.length : Int) := by have := ltF' hA rfl (lenI hA hxl) hc; omega
  conv => cbv
  exact hgood ⟨take_all hi hi2.1, fun k x y hx hy => hi2.2 k x y (by have := (List.getElem?_eq_some_iff.1 hy).1; omega) hx hy⟩
end Go.Abs
