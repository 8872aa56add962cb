/-
  References: hours, speed, tables' checks.
-/
import Derived.Test.YtbljnbpddboohaaGreatF6
import Derived.Test.YtbljnbpddboohaaGreatS2
import Derived.Test.YtbljnbpddboohaaGreatH1
set_option linter.unusedVariables false
set_option linter.unusedSimpArgs false
namespace Go.Abs
open Go.RowKit Go.Proofs

theorem ref05_Check {xs : List PV} (l : List Span) (hx : xs = encSpans l) : CallsPV Tryz.prog 92 [.list 2 xs] (.int .i64 (if hoursOk l then 0 else 50)) := by
  refine callsPV_by (clo := fun _ => false) (rows := false) env_ok Tryz.func92 rfl (enters_of Tryz.func92 (by kernel_rfl) rfl) (fun A q P Y hr hA hq => ?_)
  have hll : xs.length = l.length := by rw [hx]; simp [encSpans]
  have hlen : l.length ≤ 9223372036854775807 := by have := (hr.mem (p := .list 2 xs) (by simp)).len; omega
  have hbad : ∀ x ∈ l, spanBad x = true → PV.int .i64 50 = q := fun x hx h => by
    rw [← hq, show hoursOk l = false by unfold hoursOk; rw [List.any_eq_true.2 ⟨x, hx, h⟩]; rfl]; rfl
  conv => cbv
  refine loop_set hA (fun (i : Int) s => s.put (some 3) (.val (.int .i64 i))) (fun i => 0 ≤ i ∧ i ≤ (l.length : Int) ∧ (fun i => ∀ x ∈ l.take i.toNat, spanBad x = false) i) (fun i => ((l.length : Int) - i).toNat) 0 ?_ ?_ ?_
  · conv => cbv
    exact wk_sl (by repeat (first | refine leL_same ?_ | refine leL_any ?_ | exact leL_nil))
  · exact ⟨Int.le_refl _, by omega, by simp⟩
  · rintro R i ⟨hi0, hi1, hi2⟩ hRi
    conv => cbv
    split
    · rename_i hc
      have hi : i < (l.length : Int) := ltT' hA rfl (lenI hA hll) hc
      have his : A.iAdd i 1 = i + 1 := addI hA _ _
      have hir : A.inR (A.iAdd i 1) := inR' hA his (by unfold inI64; omega)
      have him : ((l.length : Int) - A.iAdd i 1).toNat < ((l.length : Int) - i).toNat := by rw [his]; omega
      have hin : (fun i => ∀ x ∈ l.take i.toNat, spanBad x = false) (i + 1) → 0 ≤ A.iAdd i 1 ∧ A.iAdd i 1 ≤ (l.length : Int) ∧ (fun i => ∀ x ∈ l.take i.toNat, spanBad x = false) (A.iAdd i 1) := fun h => by rw [his]; exact ⟨by omega, by omega, h⟩
      simp only at hin
      conv => cbv
      refine ⟨draw_intro hA (by kernel_rfl), ?_⟩
      refine idx_Span hA hx hi0 hi (fun x hx0 => ?_)
      have hm := List.mem_of_getElem? hx0
      have ht := take_snoc' hi0 hx0
      obtain ⟨x1, x2⟩ := x
      conv => cbv
      split
      · rename_i hc
        conv => cbv
        exact hbad _ hm (by have := ltT hA hc; unfold spanBad; simp; omega)
      rename_i c1
      conv => cbv
      refine idx_Span hA hx hi0 hi (fun z hz => ?_)
      obtain rfl := Option.some.inj ((hx0).symm.trans hz)
      conv => cbv
      refine idx_Span hA hx hi0 hi (fun z hz => ?_)
      obtain rfl := Option.some.inj ((hx0).symm.trans hz)
      conv => cbv
      split
      · rename_i hc
        conv => cbv
        exact hbad _ hm (by have := leT hA hc; unfold spanBad; simp; omega)
      rename_i c2
      conv => cbv
      refine idx_Span hA hx hi0 hi (fun z hz => ?_)
      obtain rfl := Option.some.inj ((hx0).symm.trans hz)
      conv => cbv
      split
      · rename_i hc
        conv => cbv
        exact hbad _ hm (by have := ltT hA hc; unfold spanBad; simp; omega)
      rename_i c3
      conv => cbv
      exact ⟨hir, hRi (A.iAdd i 1) _ (by (conv => cbv); exact wk_sl (by repeat (first | refine leL_same ?_ | refine leL_any ?_ | exact leL_nil))) (hin (mem_snoc ht hi2 (by have := ltF hA c1; have := leF hA c2; have := ltF hA c3; unfold spanBad; simp; omega))) him⟩
    · rename_i hc
      have hi : i = (l.length : Int) := by have := ltF' hA rfl (lenI hA hll) hc; omega
      conv => cbv
      rw [← hq, show hoursOk l = true by unfold hoursOk; rw [any_f (take_all hi hi2)]; rfl]; rfl

theorem kindOk_iff (k : Kind) : kindOk k = true ↔ (1 ≤ k.Slow ∧ k.Slow ≤ 64 ∧ k.Slow ≤ k.Fast ∧ k.Fast ≤ 64 ∧ 1 ≤ k.Places ∧ k.Places ≤ 8 ∧ 1 ≤ k.Weight ∧ k.Weight ≤ 8 ∧ 0 ≤ k.Longest ∧ k.Longest ≤ 60 ∧ (k.Curfews.length : Int) ≤ 16) ∧ k.Longest.tmod 10 = 0 ∧ ∀ l ∈ k.Curfews, hoursOk l = true := by
  unfold kindOk
  simp only [withinL, Bool.and_eq_true, Bool.not_eq_true', Bool.or_eq_false_iff, decide_eq_false_iff_not, decide_eq_true_eq, List.any_eq_false, Bool.not_eq_false, and_true, and_assoc]
  constructor
  · rintro ⟨h1, h2, h3, h4, h5, h6, h7, h8, h9, h10, h11, h12, h13, h14⟩
    refine ⟨by omega, by omega, by omega, by omega, by omega, by omega, by omega, by omega, by omega, by omega, by omega, h13, fun l hl => ?_⟩
    have := h14 l hl; simpa using this
  · rintro ⟨h1, h2, h3, h4, h5, h6, h7, h8, h9, h10, h11, h12, h13⟩
    refine ⟨by omega, by omega, by omega, by omega, by omega, by omega, by omega, by omega, by omega, by omega, by omega, by omega, h12, fun l hl => ?_⟩
    simp [h13 l hl]

theorem ref12_Check (k : Kind) : CallsPV Tryz.prog 66 [encKind k] (.int .i64 (if kindOk k then 0 else 120)) := by
  refine callsPV_by (clo := fun _ => false) (rows := false) env_ok Tryz.func66 rfl (enters_of Tryz.func66 (by kernel_rfl) rfl) (fun A q P Y hr hA hq => ?_)
  have hbad : ¬ kindOk k = true → PV.int .i64 120 = q := fun h => by rw [← hq, if_neg h]
  have hK := (kindOk_iff k).1
  have hK2 := (kindOk_iff k).2
  generalize kindOk k = kb at hbad hK hK2 hq
  obtain ⟨cu, hcu⟩ : ∃ cu, cu = encSpanLs k.Curfews := ⟨_, rfl⟩
  have hcl : cu.length = k.Curfews.length := by rw [hcu]; simp [encSpanLs]
  have hlen : k.Curfews.length ≤ 9223372036854775807 := by
    have := (Real.cell (show Real [.agg _] from hr) (c := .list 1 (encSpanLs k.Curfews)) (by simp)).len
    rw [← hcu, hcl] at this; exact this
  rw [show encKind k = .agg [.int .i64 k.Slow, .int .i64 k.Fast, .int .i64 k.Places, .int .i64 k.Weight, .int .i64 k.Longest, .list 1 cu] by rw [hcu]; rfl]
  obtain ⟨k1, k2, k3, k4, k5, k6⟩ := k
  simp only at hK hK2 hcu hcl hlen ⊢
  conv => cbv
  split
  · rename_i hc
    conv => cbv
    exact hbad (fun h => by have := hK h; have := ltT hA hc; omega)
  rename_i c1; replace c1 := ltF hA c1
  conv => cbv
  split
  · rename_i hc
    conv => cbv
    exact hbad (fun h => by have := hK h; have := ltT hA hc; omega)
  rename_i c2; replace c2 := ltF hA c2
  conv => cbv
  split
  · rename_i hc
    conv => cbv
    exact hbad (fun h => by have := hK h; have := ltT hA hc; omega)
  rename_i c3; replace c3 := ltF hA c3
  conv => cbv
  split
  · rename_i hc
    conv => cbv
    exact hbad (fun h => by have := hK h; have := ltT hA hc; omega)
  rename_i c4; replace c4 := ltF hA c4
  conv => cbv
  split
  · rename_i hc
    conv => cbv
    exact hbad (fun h => by have := hK h; have := ltT hA hc; omega)
  rename_i c5; replace c5 := ltF hA c5
  conv => cbv
  split
  · rename_i hc
    conv => cbv
    exact hbad (fun h => by have := hK h; have := ltT hA hc; omega)
  rename_i c6; replace c6 := ltF hA c6
  conv => cbv
  split
  · rename_i hc
    conv => cbv
    exact hbad (fun h => by have := hK h; have := ltT hA hc; omega)
  rename_i c7; replace c7 := ltF hA c7
  conv => cbv
  split
  · rename_i hc
    conv => cbv
    exact hbad (fun h => by have := hK h; have := ltT hA hc; omega)
  rename_i c8; replace c8 := ltF hA c8
  conv => cbv
  split
  · rename_i hc
    conv => cbv
    exact hbad (fun h => by have := hK h; have := ltT hA hc; omega)
  rename_i c9; replace c9 := ltF hA c9
  conv => cbv
  split
  · rename_i hc
    conv => cbv
    exact hbad (fun h => by have := hK h; have := ltT hA hc; omega)
  rename_i c10; replace c10 := ltF hA c10
  conv => cbv
  refine ⟨by subst hA; show (10 : Int) ≠ 0; omega, ?_⟩
  split
  · rename_i hc
    conv => cbv
    exact hbad (fun h => by have := hK h; have := neT' hA (modI hA k5 10) rfl hc; exact this (hK h).2.1)
  rename_i c11; replace c11 := neF' hA (modI hA k5 10) rfl c11
  conv => cbv
  split
  · rename_i hc
    conv => cbv
    exact hbad (fun h => by have := hK h; have := ltT' hA rfl (lenI hA hcl) hc; omega)
  rename_i c12; replace c12 := ltF' hA rfl (lenI hA hcl) c12
  conv => cbv
  refine loop_set hA (fun (i : Int) s => s.put (some 3) (.val (.int .i64 i))) (fun i => 0 ≤ i ∧ i ≤ (k6.length : Int) ∧ (fun i => ∀ x ∈ k6.take i.toNat, hoursOk x = true) i) (fun i => ((k6.length : Int) - i).toNat) 0 ?_ ?_ ?_
  · conv => cbv
    exact wk_sl (by repeat (first | refine leL_same ?_ | refine leL_any ?_ | exact leL_nil))
  · exact ⟨Int.le_refl _, by omega, by simp⟩
  · rintro R i ⟨hi0, hi1, hi2⟩ hRi
    conv => cbv
    split
    · rename_i hc
      have hi : i < (k6.length : Int) := ltT' hA rfl (lenI hA hcl) hc
      have his : A.iAdd i 1 = i + 1 := addI hA _ _
      have hir : A.inR (A.iAdd i 1) := inR' hA his (by unfold inI64; omega)
      have him : ((k6.length : Int) - A.iAdd i 1).toNat < ((k6.length : Int) - i).toNat := by rw [his]; omega
      have hin : (fun i => ∀ x ∈ k6.take i.toNat, hoursOk x = true) (i + 1) → 0 ≤ A.iAdd i 1 ∧ A.iAdd i 1 ≤ (k6.length : Int) ∧ (fun i => ∀ x ∈ k6.take i.toNat, hoursOk x = true) (A.iAdd i 1) := fun h => by rw [his]; exact ⟨by omega, by omega, h⟩
      simp only at hin
      conv => cbv
      refine idx_SpanL hA hcu hi0 hi (fun x v hx0 hv => ?_)
      have hm := List.mem_of_getElem? hx0
      have ht := take_snoc' hi0 hx0
      have hcall := ref05_Check x hv
      conv => cbv
      cases hb : hoursOk x with
      | false =>
        rw [hb, if_neg (by simp)] at hcall
        refine call_intro hA (hcall) ?_
        conv => cbv
        split
        rotate_left
        · rename_i hc
          cases ((show False by have := neF hA hc; omega))
        conv => cbv
        exact hbad (fun h => by have := (hK h).2.2 x hm; rw [hb] at this; cases this)
      | true =>
        rw [hb, if_pos rfl] at hcall
        refine call_intro hA (hcall) ?_
        conv => cbv
        split
        · rename_i hc
          cases (neT hA hc rfl)
        conv => cbv
        exact ⟨hir, hRi (A.iAdd i 1) _ (by (conv => cbv); exact wk_sl (by repeat (first | refine leL_same ?_ | refine leL_any ?_ | exact leL_nil))) (hin (mem_snoc ht hi2 hb)) him⟩
    · rename_i hc
      have hi : i = (k6.length : Int) := by have := ltF' hA rfl (lenI hA hcl) hc; omega
      conv => cbv
      rw [← hq, if_pos (hK2 ⟨by omega, c11, take_all hi hi2⟩)]
end Go.Abs
