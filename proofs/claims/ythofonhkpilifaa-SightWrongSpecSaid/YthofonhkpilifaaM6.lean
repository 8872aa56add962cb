/-
  Laws SightSeesSpec, SightWrongSpec.
-/
import Derived.Test.YthofonhkpilifaaR11
import Derived.Test.YthofonhkpilifaaG2
namespace Go.Abs
open Go.RowKit Go.Proofs

theorem law_SightSeesSpec (t : Tables) (r : Report) (shift : Int) (l : List Path) (_ : okTables t) (_ : okReport r) (_ : okI shift) (_ : ∀ x ∈ l, okPath x) :
    CallsPV Try.prog 3 [encTables t, encReport r, .int .i64 shift, .list 2 (encPaths l)] (.bool true) := by
  refine callsPV_by (clo := fun _ => false) (rows := false) env_ok Try.func3 rfl (enters_of Try.func3 (by kernel_rfl) rfl) (fun A q P Y hr hA hq => ?_)
  obtain ⟨xs, hxs⟩ : ∃ xs, xs = encPaths l := ⟨_, rfl⟩
  obtain ⟨ss, hss⟩ : ∃ ss, ss = encSectors t.Sectors := ⟨_, rfl⟩
  obtain ⟨cs, hcs⟩ : ∃ cs, cs = encConfigs t.Configs := ⟨_, rfl⟩
  obtain ⟨ws, hws⟩ : ∃ ws, ws = encWays t.Ways := ⟨_, rfl⟩
  obtain ⟨ms, hms⟩ : ∃ ms, ms = encIntLs t.Modes := ⟨_, rfl⟩
  obtain ⟨ks, hks⟩ : ∃ ks, ks = encKinds t.Kinds := ⟨_, rfl⟩
  obtain ⟨nv, hnv⟩ : ∃ nv, nv = t.Volumes := ⟨_, rfl⟩
  have htab : encTables t = .agg [.int .i64 nv, .list 5 ss, .list 3 cs, .list 3 ws, .list 1 ms, .list 6 ks] := by rw [encTables_eq t hss hcs hws hms hks, hnv]
  have cF := ref_Few14 t
  have w1 := fun h => sight_Sees t r shift l h hxs
  have w2 := fun h => ref23_Sees t r shift l h hxs
  rw [htab] at cF w1 w2 ⊢
  rw [← hxs]
  generalize seesB t r shift l = sb at w1 w2
  generalize seesErr t r shift l = se at w1 w2
  obtain ⟨r1, r2, r3, r4, r5, r6⟩ := r
  conv => cbv
  refine callB hA law_sane rfl (fun b0 hb0 => ?_)
  subst hb0
  conv => cbv
  split
  · rename_i hc
    cases (nT hA hc)
  conv => cbv
  refine callB hA cF rfl (fun b1 hb1 => ?_)
  conv => cbv
  split
  · conv => cbv
    exact hq
  conv => cbv
  refine callB hA (ref_Few23 l [] 0 2 (.inl rfl) hxs) rfl (fun b2 hb2 => ?_)
  conv => cbv
  split
  · conv => cbv
    exact hq
  rename_i hf2
  have hb2 : few23 0 l = true := by rw [show (0 : Nat) = ([] : List PV).length from rfl, ← hb2]; exact notF hA hf2
  have hb2' : l.length ≤ 1000 := by simp only [few23, Bool.and_eq_true, decide_eq_true_eq] at hb2; omega
  conv => cbv
  refine call_intro hA (w1 hb2') ?_
  conv => cbv
  refine call_intro hA (w2 hb2') ?_
  conv => cbv
  split
  · conv => cbv
    rw [← hq]
    show PV.bool (A.iEq se se) = _
    rw [iEqI hA]; simp
  · rename_i hc
    cases (show False from beqF hA hc rfl)

set_option maxHeartbeats 1000000 in
theorem law_SightWrongSpec (t : Tables) (many : Int) (reports : List Report) (shifts : List Int) (l : List Path) (_ : okTables t) (_ : okI many) (_ : ∀ x ∈ reports, okReport x) (_ : okIs shifts) (_ : ∀ x ∈ l, okPath x) :
    CallsPV Try.prog 4 [encTables t, .int .i64 many, .list 6 (encReports reports), .list 1 (encInts shifts), .list 2 (encPaths l)] (.bool true) := by
  refine callsPV_by (clo := fun _ => false) (rows := false) env_ok Try.func4 rfl (enters_of Try.func4 (by kernel_rfl) rfl) (fun A q P Y hr hA hq => ?_)
  obtain ⟨xs, hxs⟩ : ∃ xs, xs = encPaths l := ⟨_, rfl⟩
  obtain ⟨rs, hrs⟩ : ∃ rs, rs = encReports reports := ⟨_, rfl⟩
  obtain ⟨zs, hzs⟩ : ∃ zs, zs = encInts shifts := ⟨_, rfl⟩
  obtain ⟨ss, hss⟩ : ∃ ss, ss = encSectors t.Sectors := ⟨_, rfl⟩
  obtain ⟨cs, hcs⟩ : ∃ cs, cs = encConfigs t.Configs := ⟨_, rfl⟩
  obtain ⟨ws, hws⟩ : ∃ ws, ws = encWays t.Ways := ⟨_, rfl⟩
  obtain ⟨ms, hms⟩ : ∃ ms, ms = encIntLs t.Modes := ⟨_, rfl⟩
  obtain ⟨ks, hks⟩ : ∃ ks, ks = encKinds t.Kinds := ⟨_, rfl⟩
  obtain ⟨nv, hnv⟩ : ∃ nv, nv = t.Volumes := ⟨_, rfl⟩
  have htab : encTables t = .agg [.int .i64 nv, .list 5 ss, .list 3 cs, .list 3 ws, .list 1 ms, .list 6 ks] := by rw [encTables_eq t hss hcs hws hms hks, hnv]
  have hrl : rs.length = reports.length := by rw [hrs]; simp [encReports]
  have cF := ref_Few14 t
  have w1 := fun h h' => sight_Wrong t many reports shifts l h h' hxs hrs hzs
  have w2 := fun h h' => ref23_Wrong t many reports shifts l h h' hxs hrs hzs
  unfold wrongRes at w1 w2
  rw [htab] at cF w1 w2 ⊢
  rw [← hxs, ← hrs, ← hzs]
  generalize wrongErr t many reports shifts l = se at w1 w2
  generalize wrongL t many reports shifts l = W at w1 w2
  conv => cbv
  refine callB hA law_sane rfl (fun b0 hb0 => ?_)
  subst hb0
  conv => cbv
  split
  · rename_i hc
    cases (nT hA hc)
  conv => cbv
  refine callB hA cF rfl (fun b1 hb1 => ?_)
  conv => cbv
  split
  · conv => cbv
    exact hq
  conv => cbv
  refine callB hA (ref_Few23 l rs 6 2 (.inl rfl) hxs) rfl (fun b2 hb2 => ?_)
  conv => cbv
  split
  · conv => cbv
    exact hq
  rename_i hf2
  have hb2 : few23 rs.length l = true := by rw [← hb2]; exact notF hA hf2
  have hb2' : l.length ≤ 1000 ∧ reports.length ≤ 1000000 := by simp only [few23, Bool.and_eq_true, decide_eq_true_eq] at hb2; omega
  replace w1 := w1 hb2'.1 hb2'.2
  replace w2 := w2 hb2'.1 hb2'.2
  conv => cbv
  split
  · conv => cbv
    exact hq
  conv => cbv
  by_cases h0 : se = 0
  · rw [if_pos h0] at w1 w2
    obtain ⟨ws', hws'⟩ : ∃ ws', ws' = encInts W := ⟨_, rfl⟩
    have hsame := ref_SameInts W W hws' hws' 1 1 (.inl rfl) (.inl rfl)
    rw [← hws'] at w1 w2
    refine call_intro hA (w1) ?_
    conv => cbv
    refine call_intro hA (w2) ?_
    conv => cbv
    refine callB hA hsame rfl (fun b hb => ?_)
    obtain rfl : b = true := by rw [hb]; simp
    conv => cbv
    rw [← hq]
    show PV.bool (A.iEq se se) = _
    rw [iEqI hA]; simp
  · rw [if_neg h0] at w1 w2
    have hsame := ref_SameInts [] [] (xs := []) (ys := []) rfl rfl 0 0 (.inr rfl) (.inr rfl)
    refine call_intro hA (w1) ?_
    conv => cbv
    refine call_intro hA (w2) ?_
    conv => cbv
    refine callB hA hsame rfl (fun b hb => ?_)
    obtain rfl : b = true := by rw [hb]; simp
    conv => cbv
    rw [← hq]
    show PV.bool (A.iEq se se) = _
    rw [iEqI hA]; simp
end Go.Abs
