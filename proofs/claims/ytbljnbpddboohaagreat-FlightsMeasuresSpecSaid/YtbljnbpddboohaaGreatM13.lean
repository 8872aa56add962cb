/-
  Laws FlightsCheckSpec, FlightsMeasuresSpec.
-/
import Derived.Test.YtbljnbpddboohaaGreatR16
import Derived.Test.YtbljnbpddboohaaGreatL2
import Derived.Test.YtbljnbpddboohaaGreatR3
import Derived.Test.YtbljnbpddboohaaGreatG5
set_option linter.unusedVariables false
set_option linter.unusedSimpArgs false
namespace Go.Abs
open Go.RowKit Go.Proofs

set_option maxHeartbeats 1000000 in
theorem law_FlightsCheckSpec (t : Tables) (f : Flight) (_ : okTables t) (hf : okFlight f) : CallsPV Tryz.prog 3 [encTables t, encFlight f] (.bool true) := by
  have hin : inI64 (f.Window.From - 30) ∨ f.Window.From < 30 := by
    have h1 : okI f.Window.From := hf.2.2.2.2.2.1.1
    simp [okI, Lit.wf, IntKind.min, IntKind.max, IntKind.signed, IntKind.bits] at h1
    unfold inI64
    omega
  have hfew := ref_Few14 t
  have hfF := ref15_Few f
  have h1 := fl_Check t f
  have h2 := ref15_Check t f
  have h3 := fl_Decided f hin
  have h4 := ref15_Decided f hin
  generalize few14 t = b1 at hfew
  generalize fewF f = b2 at hfF
  generalize checkF t f = ck at h1 h2
  generalize (if f.Window.From < 30 then 0 else f.Window.From - 30) = d at h3 h4
  clear hin hf
  refine callsPV_by (clo := fun _ => false) (rows := false) env_ok Tryz.func3 rfl (enters_of Tryz.func3 (by kernel_rfl) rfl) (fun A q P Y hr hA hq => ?_)
  obtain ⟨ss, hss⟩ : ∃ ss, ss = encSectors t.Sectors := ⟨_, rfl⟩
  obtain ⟨cs, hcs⟩ : ∃ cs, cs = encConfigs t.Configs := ⟨_, rfl⟩
  obtain ⟨ws, hws⟩ : ∃ ws, ws = encWays t.Ways := ⟨_, rfl⟩
  obtain ⟨ms, hms⟩ : ∃ ms, ms = encIntLs t.Modes := ⟨_, rfl⟩
  obtain ⟨ks, hks⟩ : ∃ ks, ks = encKinds t.Kinds := ⟨_, rfl⟩
  obtain ⟨nv, hnv⟩ : ∃ nv, nv = t.Volumes := ⟨_, rfl⟩
  have htab : encTables t = .agg [.int .i64 nv, .list 5 ss, .list 3 cs, .list 3 ws, .list 1 ms, .list 6 ks] := by rw [encTables_eq t hss hcs hws hms hks, hnv]
  rw [htab] at hfew h1 h2 ⊢
  obtain ⟨f1, f2, f3, f4, f5, ⟨f6, f7⟩, f8⟩ := f
  obtain ⟨fl, hfl⟩ : ∃ fl, fl = encInts f5 := ⟨_, rfl⟩
  rw [encFlight_eq _ hfl] at hfF h1 h2 h3 h4 ⊢
  simp only at hfF h1 h2 h3 h4 ⊢
  conv => cbv
  refine call_intro hA (law15_sane) ?_
  conv => cbv
  split
  · rename_i hc
    cases (nT hA hc)
  conv => cbv
  refine call_intro hA (hfew) ?_
  conv => cbv
  split
  · conv => cbv
    exact hq
  conv => cbv
  refine call_intro hA (hfF) ?_
  conv => cbv
  split
  · conv => cbv
    exact hq
  conv => cbv
  refine ⟨draw_intro hA (by kernel_rfl), ?_⟩
  refine call_intro hA (h1) ?_
  conv => cbv
  refine call_intro hA (h2) ?_
  conv => cbv
  split
  rotate_left
  · rename_i hc
    cases (eqF hA hc rfl)
  conv => cbv
  refine call_intro hA (h3) ?_
  conv => cbv
  refine call_intro hA (h4) ?_
  conv => cbv
  refine Eq.trans ?_ hq
  show PV.bool (A.iEq d d) = _
  rw [iEqI hA, decide_eq_true rfl]

set_option maxHeartbeats 1000000 in
theorem law_FlightsMeasuresSpec (t : Tables) (f : Flight) (a b : Opt) (_ : okTables t) (_ : okFlight f) (_ : okOpt a) (_ : okOpt b) : CallsPV Tryz.prog 4 [encTables t, encFlight f, encOpt a, encOpt b] (.bool true) := by
  have hfew := ref_Few14 t
  have hfF := ref15_Few f
  have h1 := fl_Measures t f
  have h2 := ref15_Measures t f
  have h3 := fl_Delay t f a
  have h4 := ref15_Delay t f a
  have h5 := fl_Compare a b
  have h6 := ref15_Compare a b
  generalize few14 t = b1 at hfew
  generalize fewF f = b2 at hfF
  generalize checkF t f = ck at h1 h2
  generalize delayF t f a = d at h3 h4
  generalize cmpOpt a b = n at h5 h6
  obtain ⟨d1, d2, d3⟩ := d
  generalize measuresF t f = M at h1 h2
  obtain ⟨xs, hxs⟩ : ∃ xs, xs = encOpts M := ⟨_, rfl⟩
  have h7 := ref15_Same M M hxs hxs
  rw [decide_eq_true rfl] at h7
  rw [← hxs] at h1 h2
  refine callsPV_by (clo := fun _ => false) (rows := false) env_ok Tryz.func4 rfl (enters_of Tryz.func4 (by kernel_rfl) rfl) (fun A q P Y hr hA hq => ?_)
  obtain ⟨ss, hss⟩ : ∃ ss, ss = encSectors t.Sectors := ⟨_, rfl⟩
  obtain ⟨cs, hcs⟩ : ∃ cs, cs = encConfigs t.Configs := ⟨_, rfl⟩
  obtain ⟨ws, hws⟩ : ∃ ws, ws = encWays t.Ways := ⟨_, rfl⟩
  obtain ⟨ms, hms⟩ : ∃ ms, ms = encIntLs t.Modes := ⟨_, rfl⟩
  obtain ⟨ks, hks⟩ : ∃ ks, ks = encKinds t.Kinds := ⟨_, rfl⟩
  obtain ⟨nv, hnv⟩ : ∃ nv, nv = t.Volumes := ⟨_, rfl⟩
  have htab : encTables t = .agg [.int .i64 nv, .list 5 ss, .list 3 cs, .list 3 ws, .list 1 ms, .list 6 ks] := by rw [encTables_eq t hss hcs hws hms hks, hnv]
  rw [htab] at hfew h1 h2 h3 h4 ⊢
  obtain ⟨f1, f2, f3, f4, f5, ⟨f6, f7⟩, f8⟩ := f
  obtain ⟨fl, hfl⟩ : ∃ fl, fl = encInts f5 := ⟨_, rfl⟩
  rw [encFlight_eq _ hfl] at hfF h1 h2 h3 h4 ⊢
  obtain ⟨a1, a2, a3, a4⟩ := a
  obtain ⟨c1, c2, c3, c4⟩ := b
  simp only at hfF h1 h2 h3 h4 h5 h6 ⊢
  conv => cbv
  refine call_intro hA (law15_sane) ?_
  conv => cbv
  split
  · rename_i hc
    cases (nT hA hc)
  conv => cbv
  refine call_intro hA (hfew) ?_
  conv => cbv
  split
  · conv => cbv
    exact hq
  conv => cbv
  refine call_intro hA (hfF) ?_
  conv => cbv
  split
  · conv => cbv
    exact hq
  conv => cbv
  refine call_intro hA (h1) ?_
  conv => cbv
  refine call_intro hA (h2) ?_
  conv => cbv
  refine call_intro hA (h3) ?_
  conv => cbv
  refine call_intro hA (h4) ?_
  conv => cbv
  refine ⟨draw_intro hA (by kernel_rfl), ?_⟩
  refine call_intro hA (h7) ?_
  conv => cbv
  split
  rotate_left
  · rename_i hc
    cases (eqF hA hc rfl)
  conv => cbv
  split
  rotate_left
  · rename_i hc
    cases (eqF hA hc rfl)
  conv => cbv
  split
  rotate_left
  · rename_i hc
    cases (eqF hA hc rfl)
  conv => cbv
  split
  rotate_left
  · rename_i hc
    cases (eqF hA hc rfl)
  conv => cbv
  refine call_intro hA (h5) ?_
  conv => cbv
  refine call_intro hA (h6) ?_
  conv => cbv
  refine Eq.trans ?_ hq
  show PV.bool (A.iEq n n) = _
  rw [iEqI hA, decide_eq_true rfl]
end Go.Abs
