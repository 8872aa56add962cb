/-
  Laws DemandAddSpec, DemandOrder.
-/
import Derived.Test.YtjiimmaikohliaaGreatM30
set_option linter.unusedVariables false
set_option linter.unusedSimpArgs false
namespace Go.Abs
open Go.RowKit Go.Proofs

theorem same_uses (us : List Use) (m m' : Nat) (hm : m = 4 ∨ us = []) (hm' : m' = 4 ∨ us = []) : CallsPV Tryz.prog 16 [.list m (encUses us), .list m' (encUses us)] (.bool true) := by
  have h := ref20_Same us us rfl rfl
  rw [decide_eq_true rfl] at h
  have hle : ∀ k, (k = 4 ∨ us = []) → LeP (.list k (encUses us)) (.list 4 (encUses us)) := fun k hk => by
    rcases hk with rfl | rfl
    · exact .refl _
    · exact .nil _ _
  exact h.le (.cons (hle _ hm) (.cons (hle _ hm') .nil)) (.refl _)

theorem few20U_len {ls : List (List Use)} (h : few20U ls = true) : ls.length ≤ 12 ∧ ls.flatten.length ≤ 300 := by
  unfold few20U at h
  simpa using h

set_option maxRecDepth 10000 in
set_option maxHeartbeats 4000000 in
theorem law_DemandAddSpec0 (sure poss : List (List Use)) (a b : Cell) (hb1 : ∀ l ∈ sure, l.length ≤ 8796093022208) (hb2 : ∀ l ∈ poss, l.length ≤ 8796093022208) :
    CallsPV Tryz.prog 4 [.list 1 (encUseLs sure), .list 1 (encUseLs poss), encCell a, encCell b] (.bool true) := by
  obtain ⟨xs, hxs⟩ : ∃ xs, xs = encUseLs sure := ⟨_, rfl⟩
  obtain ⟨ys, hys⟩ : ∃ ys, ys = encUseLs poss := ⟨_, rfl⟩
  rw [← hxs, ← hys]
  have hf1 := ref20_Few sure hb1 hxs
  have hf2 := ref20_Few poss hb2 hys
  have hl1 := few20U_len (ls := sure)
  have hl2 := few20U_len (ls := poss)
  generalize few20U sure = b1 at hf1 hl1
  generalize few20U poss = b2 at hf2 hl2
  have h1 := fun h => dm_Add poss hys h
  have h2 := fun h => ref20_Add poss hys h
  have h3 := fun h k => dm_Interval sure poss a hxs hys h k
  have h4 := fun h k => ref20_Interval sure poss a hxs hys h k
  have h5 := dm_Compare a b
  have h6 := ref20_Compare a b
  generalize cmpC a b = r at h5 h6
  have e1 : ∃ (us : List Use) (m : Nat) (e : Int), addR poss = .tup [.list m (encUses us), .int .i64 e] ∧ (m = 4 ∨ us = []) := by
    unfold addR
    split
    · exact ⟨[], 0, _, rfl, .inr rfl⟩
    · exact ⟨_, 4, _, rfl, .inl rfl⟩
  have e2 : ∃ (x y z : Int), intR sure poss a = .tup [.int .i64 x, .int .i64 y, .int .i64 z] := by
    unfold intR
    split <;> exact ⟨_, _, _, rfl⟩
  obtain ⟨us, m, e, hr1, hm⟩ := e1
  obtain ⟨x, y, z, hr2⟩ := e2
  rw [hr1] at h1 h2
  rw [hr2] at h3 h4
  have d1 := same_uses us m m hm hm
  refine callsPV_by (clo := fun _ => false) (rows := false) env_ok Tryz.func4 rfl (enters_of Tryz.func4 (by kernel_rfl) rfl) (fun A q P Y hr hA hq => ?_)
  generalize encUses us = u at h1 h2 d1
  obtain ⟨a1, a2, a3⟩ := a
  obtain ⟨c1, c2, c3⟩ := b
  conv => cbv
  refine call_intro hA (law20_sane) ?_
  conv => cbv
  split
  · rename_i hc
    cases (nT hA hc)
  conv => cbv
  refine call_intro hA (hf1) ?_
  conv => cbv
  split
  · conv => cbv
    exact hq
  rename_i hc
  have g1 := hl1 (notF hA hc)
  conv => cbv
  refine call_intro hA (hf2) ?_
  conv => cbv
  split
  · conv => cbv
    exact hq
  rename_i hc
  have g2 := hl2 (notF hA hc)
  have h1 := h1 (by omega)
  have h2 := h2 (by omega)
  have h3 := h3 (by omega) (by omega)
  have h4 := h4 (by omega) (by omega)
  conv => cbv
  refine call_intro hA (h1) ?_
  conv => cbv
  refine call_intro hA (h2) ?_
  conv => cbv
  refine call_intro hA (h3) ?_
  conv => cbv
  refine call_intro hA (h4) ?_
  conv => cbv
  refine ⟨draw_intro hA (by kernel_rfl), ?_⟩
  refine call_intro hA (d1) ?_
  conv => cbv
  split
  rotate_left
  · rename_i hc
    cases (eqF hA hc rfl)
  conv => cbv
  split
  rotate_left
  · rename_i hc
    cases (eqF hA hc rfl)
  conv => cbv
  split
  rotate_left
  · rename_i hc
    cases (eqF hA hc rfl)
  conv => cbv
  split
  rotate_left
  · rename_i hc
    cases (eqF hA hc rfl)
  conv => cbv
  refine call_intro hA (h5) ?_
  conv => cbv
  refine call_intro hA (h6) ?_
  conv => cbv
  rw [← hq]
  show PV.bool (A.iEq r r) = _
  rw [iEqI hA, decide_eq_true rfl]

theorem lensW {l : List (List Use)} (h : (∀ x ∈ l, (∀ y ∈ x, okUse y) ∧ x.length * Program.bytesOf Tryz.prog 55 ≤ reachBytes) ∧ l.length * Program.bytesOf Tryz.prog 35 ≤ reachBytes) : ∀ x ∈ l, x.length ≤ 8796093022208 := fun x hx => by
  have h1 := (h.1 x hx).2
  rw [show Program.bytesOf Tryz.prog 55 = 32 by kernel_rfl] at h1
  unfold reachBytes at h1
  omega
theorem law_DemandAddSpec (sure poss : List (List Use)) (a b : Cell) (h1 : (∀ x ∈ sure, (∀ y ∈ x, okUse y) ∧ x.length * Program.bytesOf Tryz.prog 55 ≤ reachBytes) ∧ sure.length * Program.bytesOf Tryz.prog 35 ≤ reachBytes)
    (h2 : (∀ x ∈ poss, (∀ y ∈ x, okUse y) ∧ x.length * Program.bytesOf Tryz.prog 55 ≤ reachBytes) ∧ poss.length * Program.bytesOf Tryz.prog 35 ≤ reachBytes) (_ : okCell a) (_ : okCell b) :
    CallsPV Tryz.prog 4 [.list 1 (encUseLs sure), .list 1 (encUseLs poss), encCell a, encCell b] (.bool true) := law_DemandAddSpec0 sure poss a b (lensW h1) (lensW h2)

theorem cmpC_order (a b c : Cell) : ¬ (cmpC a b ≤ 0 ∧ cmpC b c ≤ 0 ∧ 0 < cmpC a c) ∧ ¬ (0 ≤ cmpC a b ∧ 0 ≤ cmpC b c ∧ cmpC a c < 0) := by
  have e : ∀ x y, cmpC x y ≤ 0 ↔ ¬ cellLt y x := fun x y => by
    rw [← cmpC_neg, cmpC_swap x y]; omega
  have f : ∀ x y, 0 ≤ cmpC x y ↔ ¬ cellLt x y := fun x y => by
    rw [← cmpC_neg]; omega
  have g : ∀ x y, 0 < cmpC x y ↔ cellLt y x := fun x y => by
    rw [← cmpC_neg, cmpC_swap x y]; omega
  rw [e, e, f, f, g, cmpC_neg]
  unfold cellLt
  omega
theorem cmpC_airport {a b : Cell} (h1 : a.Airport = false) (h2 : b.Airport = true) : cmpC a b = -1 := by
  rw [cmpC_def, h1, h2]; rfl
end Go.Abs
