/-
  Law FlightsDecided.
-/
import Derived.Test.YtbljnbpddboohaaM8
set_option linter.unusedVariables false
set_option linter.unusedSimpArgs false
namespace Go.Abs
open Go.RowKit Go.Proofs

theorem checkF_window {t : Tables} {f : Flight} (h : checkF t f = 0) : 0 ≤ f.Window.From ∧ f.Window.From < f.Window.To ∧ f.Window.To ≤ 1440 := by
  obtain ⟨_, h2⟩ := checkF_zero h
  simp only [flightB, Bool.and_eq_true, Bool.not_eq_true'] at h2
  obtain ⟨⟨⟨⟨⟨⟨⟨⟨_, _⟩, _⟩, _⟩, _⟩, _⟩, hw⟩, _⟩, _⟩ := h2
  simp at hw
  omega

theorem wrapI {A : Ops} {E : Env} (hA : A = stdOps E) {x : Int} (h0 : 0 ≤ x) (h1 : x ≤ 255) : A.wrap .i64 x = x := by
  subst hA
  show IntKind.i64.wrap x = x
  unfold IntKind.wrap
  simp [IntKind.bits, IntKind.signed]
  omega

set_option maxHeartbeats 1000000 in
theorem law_FlightsDecided (t : Tables) (f : Flight) (x : Int) (_ : okTables t) (_ : okFlight f) (hx : (Lit.int .u8 x).wf = true) : CallsPV Try.prog 7 [encTables t, encFlight f, .int .u8 x] (.bool true) := by
  obtain ⟨hx0, hx1⟩ : 0 ≤ x ∧ x ≤ 255 := by
    simp [Lit.wf, IntKind.min, IntKind.max, IntKind.signed, IntKind.bits] at hx
    omega
  refine callsPV_by (clo := fun _ => false) (rows := false) env_ok Try.func7 rfl (enters_of Try.func7 (by kernel_rfl) rfl) (fun A q P Y hr hA hq => ?_)
  have hfew := ref_Few14 t
  have hfF := ref15_Few f
  have hchk := fl_Check t f
  obtain ⟨b1, hb1⟩ : ∃ b, b = few14 t := ⟨_, rfl⟩
  obtain ⟨b2, hb2⟩ : ∃ b, b = fewF f := ⟨_, rfl⟩
  obtain ⟨ck, hck⟩ : ∃ b, b = checkF t f := ⟨_, rfl⟩
  rw [← hb1] at hfew
  rw [← hb2] at hfF
  rw [← hck] at hchk
  have hwin : ck = 0 → 0 ≤ f.Window.From ∧ f.Window.From < f.Window.To ∧ f.Window.To ≤ 1440 := fun h => checkF_window (hck ▸ h)
  have hd1 : ck = 0 → CallsPV Try.prog 17 [encFlight f] (.int .i64 (if f.Window.From < 30 then 0 else f.Window.From - 30)) := fun h => fl_Decided f (by have := hwin h; unfold inI64; omega)
  have hd2 : ck = 0 → CallsPV Try.prog 17 [encFlight ⟨f.ID, f.Airline, f.Class, f.Call, f.Ways, ⟨f.Window.From + x, f.Window.To + x⟩, f.Cancel⟩] (.int .i64 (if f.Window.From + x < 30 then 0 else f.Window.From + x - 30)) := fun h => fl_Decided ⟨f.ID, f.Airline, f.Class, f.Call, f.Ways, ⟨f.Window.From + x, f.Window.To + x⟩, f.Cancel⟩ (by have := hwin h; simp only; unfold inI64; omega)
  clear hck hb1 hb2
  obtain ⟨ss, hss⟩ : ∃ ss, ss = encSectors t.Sectors := ⟨_, rfl⟩
  obtain ⟨cs, hcs⟩ : ∃ cs, cs = encConfigs t.Configs := ⟨_, rfl⟩
  obtain ⟨ws, hws⟩ : ∃ ws, ws = encWays t.Ways := ⟨_, rfl⟩
  obtain ⟨ms, hms⟩ : ∃ ms, ms = encIntLs t.Modes := ⟨_, rfl⟩
  obtain ⟨ks, hks⟩ : ∃ ks, ks = encKinds t.Kinds := ⟨_, rfl⟩
  obtain ⟨nv, hnv⟩ : ∃ nv, nv = t.Volumes := ⟨_, rfl⟩
  have htab : encTables t = .agg [.int .i64 nv, .list 5 ss, .list 3 cs, .list 3 ws, .list 1 ms, .list 6 ks] := by rw [encTables_eq t hss hcs hws hms hks, hnv]
  rw [htab] at hfew hchk ⊢
  obtain ⟨f1, f2, f3, f4, f5, ⟨f6, f7⟩, f8⟩ := f
  obtain ⟨fl, hfl⟩ : ∃ fl, fl = encInts f5 := ⟨_, rfl⟩
  rw [encFlight_eq _ hfl] at hfF hchk hd1 ⊢
  rw [encFlight_eq _ hfl] at hd2
  simp only at hfF hchk hd1 hd2 hwin ⊢
  have hw : A.wrap .i64 x = x := wrapI hA hx0 hx1
  have hs6 : A.iAdd f6 (A.wrap .i64 x) = f6 + x := by rw [hw]; exact addI hA _ _
  have hs7 : A.iAdd f7 (A.wrap .i64 x) = f7 + x := by rw [hw]; exact addI hA _ _
  conv => cbv
  refine call_intro hA (law15_sane) ?_
  conv => cbv
  split
  · rename_i hc
    cases (nT hA hc)
  conv => cbv
  refine call_intro hA (hfew) ?_
  conv => cbv
  split
  · conv => cbv
    exact hq
  conv => cbv
  refine call_intro hA (hfF) ?_
  conv => cbv
  split
  · conv => cbv
    exact hq
  conv => cbv
  refine call_intro hA (hchk) ?_
  conv => cbv
  split
  · conv => cbv
    exact hq
  rename_i hc
  have h0 : ck = 0 := neF hA hc
  have hW := hwin h0
  have d1 := hd1 h0
  have d2 := hd2 h0
  rw [← hs6, ← hs7] at d2
  obtain ⟨n1, hn1⟩ : ∃ n, n = if f6 < 30 then (0 : Int) else f6 - 30 := ⟨_, rfl⟩
  obtain ⟨n2, hn2⟩ : ∃ n, n = if f6 + x < 30 then (0 : Int) else f6 + x - 30 := ⟨_, rfl⟩
  rw [← hn1] at d1
  rw [hs6, ← hn2, ← hs6] at d2
  conv => cbv
  refine call_intro hA (d1) ?_
  conv => cbv
  refine ⟨inR' hA hs6 (by unfold inI64; omega), ?_⟩
  conv => cbv
  refine ⟨inR' hA hs7 (by unfold inI64; omega), ?_⟩
  conv => cbv
  have e1 : (f6 < 30 ∧ n1 = 0) ∨ (30 ≤ f6 ∧ n1 = f6 - 30) := by rw [hn1]; split <;> omega
  have e2 : (f6 + x < 30 ∧ n2 = 0) ∨ (30 ≤ f6 + x ∧ n2 = f6 + x - 30) := by rw [hn2]; split <;> omega
  have hsub : A.iSub f6 n1 = f6 - n1 := subI hA _ _
  have hsr : A.inR (A.iSub f6 n1) := inR' hA hsub (by unfold inI64; omega)
  split
  rotate_left
  · rename_i hc
    cases ((show False by have := leF hA hc; omega))
  conv => cbv
  split
  rotate_left
  · rename_i hc
    cases ((show False by have := leF hA hc; omega))
  conv => cbv
  refine ⟨hsr, ?_⟩
  conv => cbv
  split
  rotate_left
  · rename_i hc
    cases ((show False by have := leF' hA hsub rfl hc; omega))
  conv => cbv
  refine call_intro hA (d2) ?_
  conv => cbv
  split
  rotate_left
  · rename_i hc
    cases ((show False by have := leF hA hc; omega))
  conv => cbv
  split
  · conv => cbv
    exact hq
  rename_i hc
  have hne := eqF hA hc
  conv => cbv
  refine ⟨hsr, ?_⟩
  refine Eq.trans ?_ hq
  show PV.bool (A.iEq (A.iSub f6 n1) 30) = _
  rw [hsub, iEqI hA, decide_eq_true (by omega)]
end Go.Abs
