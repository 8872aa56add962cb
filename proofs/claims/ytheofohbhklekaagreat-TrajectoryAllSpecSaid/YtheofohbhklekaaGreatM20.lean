/-
  Laws TrajectorySpec, TrajectoryAllSpec.
-/
import Derived.Test.YtheofohbhklekaaGreatL3
import Derived.Test.YtheofohbhklekaaGreatR23
import Derived.Test.YtheofohbhklekaaGreatR24
import Derived.Test.YtheofohbhklekaaGreatG1
set_option linter.unusedVariables false
set_option linter.unusedSimpArgs false
namespace Go.Abs
open Go.RowKit Go.Proofs

set_option maxHeartbeats 2000000 in
theorem law_TrajectorySpec (t : Tables) (f : Flight) (o : Opt) (_ : okTables t) (_ : okFlight f) (_ : okOpt o) : CallsPV Tryz.prog 3 [encTables t, encFlight f, encOpt o] (.bool true) := by
  have hfew := law16_few t f
  have h1 := tr_Bounds t f o
  have h2 := ref16_Bounds t f o
  have h3 := tr_Count t f o
  have h4 := ref16_Count t f o
  generalize (few14 t && fewF f) = b1 at hfew
  generalize planE t f o = e1 at h1 h2
  generalize countE t f o = e2 at h3 h4
  generalize countN t f o = n at h3 h4
  generalize boundsB t f o = M at h1 h2
  obtain ⟨xs, hxs⟩ : ∃ xs, xs = encBounds M := ⟨_, rfl⟩
  have h7 := ref12_Same M M hxs hxs
  rw [decide_eq_true rfl] at h7
  rw [← hxs] at h1 h2
  refine callsPV_by (clo := fun _ => false) (rows := false) env_ok Tryz.func3 rfl (enters_of Tryz.func3 (by kernel_rfl) rfl) (fun A q P Y hr hA hq => ?_)
  obtain ⟨ss, hss⟩ : ∃ ss, ss = encSectors t.Sectors := ⟨_, rfl⟩
  obtain ⟨cs, hcs⟩ : ∃ cs, cs = encConfigs t.Configs := ⟨_, rfl⟩
  obtain ⟨ws, hws⟩ : ∃ ws, ws = encWays t.Ways := ⟨_, rfl⟩
  obtain ⟨ms, hms⟩ : ∃ ms, ms = encIntLs t.Modes := ⟨_, rfl⟩
  obtain ⟨ks, hks⟩ : ∃ ks, ks = encKinds t.Kinds := ⟨_, rfl⟩
  obtain ⟨nv, hnv⟩ : ∃ nv, nv = t.Volumes := ⟨_, rfl⟩
  have htab : encTables t = .agg [.int .i64 nv, .list 5 ss, .list 3 cs, .list 3 ws, .list 1 ms, .list 6 ks] := by rw [encTables_eq t hss hcs hws hms hks, hnv]
  rw [htab] at hfew h1 h2 h3 h4 ⊢
  obtain ⟨f1, f2, f3, f4, f5, ⟨f6, f7⟩, f8⟩ := f
  obtain ⟨fl, hfl⟩ : ∃ fl, fl = encInts f5 := ⟨_, rfl⟩
  rw [encFlight_eq _ hfl] at hfew h1 h2 h3 h4 ⊢
  obtain ⟨a1, a2, a3, a4⟩ := o
  simp only at hfew h1 h2 h3 h4 ⊢
  conv => cbv
  refine call_intro hA (law16_sane) ?_
  conv => cbv
  split
  · rename_i hc
    cases (nT hA hc)
  conv => cbv
  refine call_intro hA (hfew) ?_
  conv => cbv
  split
  · conv => cbv
    exact hq
  conv => cbv
  refine call_intro hA (h1) ?_
  conv => cbv
  refine call_intro hA (h2) ?_
  conv => cbv
  refine call_intro hA (h3) ?_
  conv => cbv
  refine call_intro hA (h4) ?_
  conv => cbv
  refine call_intro hA (h7) ?_
  conv => cbv
  split
  rotate_left
  · rename_i hc
    cases (eqF hA hc rfl)
  conv => cbv
  split
  rotate_left
  · rename_i hc
    cases (eqF hA hc rfl)
  conv => cbv
  refine Eq.trans ?_ hq
  show PV.bool (A.iEq e2 e2) = _
  rw [iEqI hA, decide_eq_true rfl]

set_option maxHeartbeats 2000000 in
theorem law_TrajectoryAllSpec (t : Tables) (f : Flight) (o : Opt) (p : Path) (_ : okTables t) (_ : okFlight f) (_ : okOpt o) (_ : okPath p) : CallsPV Tryz.prog 4 [encTables t, encFlight f, encOpt o, encPath p] (.bool true) := by
  have hfew := law16_few t f
  have h1 := tr_Flies t f o p
  have h2 := ref16_Flies t f o p
  have h3 := ref16_Light t f o 600
  have h4 := tr_All t f o
  have h5 := ref16_All t f o
  generalize (few14 t && fewF f) = b1 at hfew
  generalize (!decide (countE t f o = 0) || decide (countN t f o ≤ 600)) = b3 at h3
  generalize planE t f o = e1 at h1 h2
  generalize fliesB t f o p = b2 at h1 h2
  generalize countE t f o = e2 at h4 h5
  generalize allP t f o = M at h4 h5
  obtain ⟨xs, hxs⟩ : ∃ xs, xs = encPaths M := ⟨_, rfl⟩
  have h7 := ref16_SamePaths M M hxs hxs
  rw [decide_eq_true rfl] at h7
  rw [← hxs] at h4 h5
  refine callsPV_by (clo := fun _ => false) (rows := false) env_ok Tryz.func4 rfl (enters_of Tryz.func4 (by kernel_rfl) rfl) (fun A q P Y hr hA hq => ?_)
  obtain ⟨ss, hss⟩ : ∃ ss, ss = encSectors t.Sectors := ⟨_, rfl⟩
  obtain ⟨cs, hcs⟩ : ∃ cs, cs = encConfigs t.Configs := ⟨_, rfl⟩
  obtain ⟨ws, hws⟩ : ∃ ws, ws = encWays t.Ways := ⟨_, rfl⟩
  obtain ⟨ms, hms⟩ : ∃ ms, ms = encIntLs t.Modes := ⟨_, rfl⟩
  obtain ⟨ks, hks⟩ : ∃ ks, ks = encKinds t.Kinds := ⟨_, rfl⟩
  obtain ⟨nv, hnv⟩ : ∃ nv, nv = t.Volumes := ⟨_, rfl⟩
  have htab : encTables t = .agg [.int .i64 nv, .list 5 ss, .list 3 cs, .list 3 ws, .list 1 ms, .list 6 ks] := by rw [encTables_eq t hss hcs hws hms hks, hnv]
  rw [htab] at hfew h1 h2 h3 h4 h5 ⊢
  obtain ⟨f1, f2, f3, f4, f5, ⟨f6, f7⟩, f8⟩ := f
  obtain ⟨fl, hfl⟩ : ∃ fl, fl = encInts f5 := ⟨_, rfl⟩
  rw [encFlight_eq _ hfl] at hfew h1 h2 h3 h4 h5 ⊢
  obtain ⟨a1, a2, a3, a4⟩ := o
  obtain ⟨p1, p2⟩ := p
  obtain ⟨ts, hts⟩ : ∃ ts, ts = encInts p2 := ⟨_, rfl⟩
  rw [encPath_eq _ hts] at h1 h2 ⊢
  simp only at hfew h1 h2 h3 h4 h5 ⊢
  conv => cbv
  refine call_intro hA (law16_sane) ?_
  conv => cbv
  split
  · rename_i hc
    cases (nT hA hc)
  conv => cbv
  refine call_intro hA (hfew) ?_
  conv => cbv
  split
  · conv => cbv
    exact hq
  conv => cbv
  split
  · conv => cbv
    exact hq
  conv => cbv
  refine call_intro hA (h1) ?_
  conv => cbv
  refine call_intro hA (h2) ?_
  conv => cbv
  split
  · rename_i hc
    cases (bneT hA hc rfl)
  conv => cbv
  split
  · rename_i hc
    cases (neT hA hc rfl)
  conv => cbv
  refine call_intro hA (h3) ?_
  conv => cbv
  split
  · conv => cbv
    exact hq
  conv => cbv
  refine call_intro hA (h4) ?_
  conv => cbv
  refine call_intro hA (h5) ?_
  conv => cbv
  refine call_intro hA (h7) ?_
  conv => cbv
  refine Eq.trans ?_ hq
  show PV.bool (A.iEq e2 e2) = _
  rw [iEqI hA, decide_eq_true rfl]
end Go.Abs
