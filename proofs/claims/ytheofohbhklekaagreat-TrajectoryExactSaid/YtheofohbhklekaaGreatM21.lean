/-
  Law TrajectoryExact.
-/
import Derived.Test.YtheofohbhklekaaGreatL3
import Derived.Test.YtheofohbhklekaaGreatR26
import Derived.Test.YtheofohbhklekaaGreatG1
set_option linter.unusedVariables false
set_option linter.unusedSimpArgs false
namespace Go.Abs
open Go.RowKit Go.Proofs

set_option maxHeartbeats 4000000 in
theorem law_TrajectoryExact (t : Tables) (f : Flight) (o : Opt) (p : Path) (_ : okTables t) (_ : okFlight f) (_ : okOpt o) (_ : okPath p) : CallsPV Tryz.prog 5 [encTables t, encFlight f, encOpt o, encPath p] (.bool true) := by
  have hfew := law16_few t f
  have h1 := tr_Flies t f o
  have h3 := ref16_Light t f o 600
  have h4 := tr_All t f o
  have h5 := tr_Count t f o
  have hS := law16_less
  have hP := fun a => ref16_SamePath a p
  have hcase := countE_case t f o
  have hall := @allP_iff t f o
  have hless := @allP_less t f o
  generalize (few14 t && fewF f) = b1 at hfew
  generalize (!decide (countE t f o = 0) || decide (countN t f o ≤ 600)) = b3 at h3
  generalize planE t f o = e1 at h1 hcase
  generalize fliesB t f o = F at h1 hall
  generalize countE t f o = e2 at h4 h5 hcase hall
  generalize countN t f o = n at h5 hcase
  generalize allP t f o = M at h4 hcase hall hless
  generalize allT t f o = T at hcase
  obtain ⟨xs, hxs⟩ : ∃ xs, xs = encPaths M := ⟨_, rfl⟩
  have hxl : xs.length = M.length := by rw [hxs]; simp [encPaths]
  rw [← hxs] at h4
  refine callsPV_by (clo := fun _ => false) (rows := false) env_ok Tryz.func5 rfl (enters_of Tryz.func5 (by kernel_rfl) rfl) (fun A q P Y hr hA hq => ?_)
  obtain ⟨ss, hss⟩ : ∃ ss, ss = encSectors t.Sectors := ⟨_, rfl⟩
  obtain ⟨cs, hcs⟩ : ∃ cs, cs = encConfigs t.Configs := ⟨_, rfl⟩
  obtain ⟨ws, hws⟩ : ∃ ws, ws = encWays t.Ways := ⟨_, rfl⟩
  obtain ⟨ms, hms⟩ : ∃ ms, ms = encIntLs t.Modes := ⟨_, rfl⟩
  obtain ⟨ks, hks⟩ : ∃ ks, ks = encKinds t.Kinds := ⟨_, rfl⟩
  obtain ⟨nv, hnv⟩ : ∃ nv, nv = t.Volumes := ⟨_, rfl⟩
  have htab : encTables t = .agg [.int .i64 nv, .list 5 ss, .list 3 cs, .list 3 ws, .list 1 ms, .list 6 ks] := by rw [encTables_eq t hss hcs hws hms hks, hnv]
  rw [htab] at hfew h1 h3 h4 h5 ⊢
  obtain ⟨f1, f2, f3, f4, f5, ⟨f6, f7⟩, f8⟩ := f
  obtain ⟨fl, hfl⟩ : ∃ fl, fl = encInts f5 := ⟨_, rfl⟩
  rw [encFlight_eq _ hfl] at hfew h1 h3 h4 h5 ⊢
  obtain ⟨a1, a2, a3, a4⟩ := o
  obtain ⟨p1, p2⟩ := p
  obtain ⟨ts, hts⟩ : ∃ ts, ts = encInts p2 := ⟨_, rfl⟩
  have h1p := h1 ⟨p1, p2⟩
  rw [encPath_eq _ hts] at h1p ⊢
  have hP' := fun (a : Path) (xa : List PV) (ha : xa = encInts a.Times) => (encPath_eq ⟨p1, p2⟩ hts) ▸ (encPath_eq a ha) ▸ hP a
  have hS' := fun (a b : Path) (xa xb : List PV) (ha : xa = encInts a.Times) (hb : xb = encInts b.Times) => (encPath_eq a ha) ▸ (encPath_eq b hb) ▸ hS a b
  have h1' := fun (a : Path) (xa : List PV) (ha : xa = encInts a.Times) => (encPath_eq a ha) ▸ h1 a
  simp only at hfew h1p h1' hP' hS' h3 h4 h5 ⊢
  clear h1 hS hP
  conv => cbv
  refine call_intro hA (law16_sane) ?_
  conv => cbv
  split
  · rename_i hc
    cases (nT hA hc)
  conv => cbv
  refine call_intro hA (hfew) ?_
  conv => cbv
  split
  · conv => cbv
    exact hq
  conv => cbv
  split
  · conv => cbv
    exact hq
  conv => cbv
  refine call_intro hA (h3) ?_
  conv => cbv
  split
  · conv => cbv
    exact hq
  conv => cbv
  refine call_intro hA (h4) ?_
  conv => cbv
  refine call_intro hA (h5) ?_
  conv => cbv
  split
  · rename_i hc
    cases (neT hA hc rfl)
  conv => cbv
  split
  · rename_i hc
    have he := neT hA hc
    rcases hcase with ⟨_, hM, hn⟩ | ⟨h0, _⟩
    · have hx0 : xs.length = 0 := by rw [hxl, hM]; rfl
      conv => cbv
      split
      rotate_left
      · rename_i hc
        cases (eqF' hA (lenI hA hx0) rfl hc rfl)
      conv => cbv
      refine Eq.trans ?_ hq
      show PV.bool (A.iEq n 0) = _
      rw [iEqI hA, hn, decide_eq_true rfl]
    · exact absurd h0 he
  rename_i hc
  have he := neF hA hc
  rcases hcase with ⟨h0, _⟩ | ⟨_, hpe, _, hn, hM1, hM2⟩
  · exact absurd he h0
  have hall' := @hall he
  have hFlies : ∀ a ∈ M, F a = true := fun a ha => hall'.1 ha
  clear hall hfew h3 h4 h5
  conv => cbv
  refine loop_set hA (fun (z : Int × Bool) s => (s.put (some 14) (.val (.int .i64 z.1))).put (some 13) (.val (.bool z.2))) (fun z => 0 ≤ z.1 ∧ z.1 ≤ M.length ∧ z.2 = decide ((⟨p1, p2⟩ : Path) ∈ M.take z.1.toNat)) (fun z => ((M.length : Int) - z.1).toNat) (0, false) ?_ ?_ ?_
  · conv => cbv
    exact wk_sl (by repeat (first | refine leL_same ?_ | refine leL_any ?_ | exact leL_nil))
  · exact ⟨Int.le_refl _, by omega, by simp⟩
  rintro R ⟨i, met⟩ ⟨hi0, hi1, hmet⟩ hR
  simp only at hi0 hi1 hmet
  conv => cbv
  split
  · rename_i hc
    have hi : i < M.length := ltT' hA rfl (lenI hA hxl) hc
    have his : A.iAdd i 1 = i + 1 := addI hA _ _
    have hir : A.inR (A.iAdd i 1) := inR' hA his (by unfold inI64; omega)
    conv => cbv
    refine ⟨draw_intro hA (by kernel_rfl), ?_⟩
    refine idx_Path hA hxs hi0 hi (fun x v hx0 hv => ?_)
    have hxm : x ∈ M := List.mem_of_getElem? hx0
    have c1 := h1' x v hv
    rw [hFlies x hxm] at c1
    conv => cbv
    refine call_intro hA (c1) ?_
    conv => cbv
    refine ⟨draw_intro hA (by kernel_rfl), ?_⟩
    split
    · rename_i hc
      cases (neT' hA hpe rfl hc rfl)
    conv => cbv
    split
    · rename_i hc
      cases (nT hA hc)
    conv => cbv
    have hnext : ∀ b, b = (met || decide (x = ⟨p1, p2⟩)) → 0 ≤ A.iAdd i 1 ∧ A.iAdd i 1 ≤ (M.length : Int) ∧ b = decide ((⟨p1, p2⟩ : Path) ∈ M.take (A.iAdd i 1).toNat) := by
      intro b hb
      rw [his]
      refine ⟨by omega, by omega, ?_⟩
      rw [show (i + 1).toNat = i.toNat + 1 by omega, List.take_add_one, hx0, hb, hmet]
      rw [Bool.eq_iff_iff]
      simp only [Option.toList_some, List.mem_append, List.mem_singleton, Bool.or_eq_true, decide_eq_true_eq]
      exact ⟨fun h => h.imp id Eq.symm, fun h => h.imp id Eq.symm⟩
    have hms : ((M.length : Int) - A.iAdd i 1).toNat < ((M.length : Int) - i).toNat := by rw [his]; omega
    split
    · rename_i hc1
      have hi0' : 0 < i := ltT hA hc1
      conv => cbv
      refine ⟨inR' hA (subI hA i 1) (by unfold inI64; omega), ?_⟩
      refine idx_Path hA hxs (n := A.iSub i 1) (by rw [subI hA]; omega) (by rw [subI hA]; omega) (fun u uv hu0 huv => ?_)
      conv => cbv
      refine idx_Path hA hxs hi0 hi (fun z zv hz hzv => ?_)
      obtain rfl := Option.some.inj ((hx0).symm.trans hz)
      have c2 := hS' u x uv zv huv hzv
      have hl : lessB u.Times x.Times = true := hless (i := (i - 1).toNat) (by rw [subI hA] at hu0; exact hu0) (by rw [show (i - 1).toNat + 1 = i.toNat by omega]; exact hx0)
      rw [hl] at c2
      conv => cbv
      refine call_intro hA (c2) ?_
      conv => cbv
      split
      · rename_i hc
        cases (nT hA hc)
      conv => cbv
      refine ⟨draw_intro hA (by kernel_rfl), ?_⟩
      split
      · conv => cbv
        exact ⟨hir, hR ⟨A.iAdd i 1, true⟩ _ (by (conv => cbv); exact wk_sl (by repeat (first | refine leL_same ?_ | refine leL_any ?_ | exact leL_nil))) (hnext _ rfl) hms⟩
      · conv => cbv
        refine idx_Path hA hxs hi0 hi (fun z2 zv2 hz2 hzv2 => ?_)
        obtain rfl := Option.some.inj ((hx0).symm.trans hz2)
        conv => cbv
        refine call_intro hA ((hP' x zv2 hzv2)) ?_
        conv => cbv
        exact ⟨hir, hR ⟨A.iAdd i 1, _⟩ _ (by (conv => cbv); exact wk_sl (by repeat (first | refine leL_same ?_ | refine leL_any ?_ | exact leL_nil))) (hnext _ rfl) hms⟩
    · rename_i hc1
      have hi00 := ltF hA hc1
      conv => cbv
      refine ⟨draw_intro hA (by kernel_rfl), ?_⟩
      split
      · conv => cbv
        exact ⟨hir, hR ⟨A.iAdd i 1, true⟩ _ (by (conv => cbv); exact wk_sl (by repeat (first | refine leL_same ?_ | refine leL_any ?_ | exact leL_nil))) (hnext _ rfl) hms⟩
      · conv => cbv
        refine idx_Path hA hxs hi0 hi (fun z2 zv2 hz2 hzv2 => ?_)
        obtain rfl := Option.some.inj ((hx0).symm.trans hz2)
        conv => cbv
        refine call_intro hA ((hP' x zv2 hzv2)) ?_
        conv => cbv
        exact ⟨hir, hR ⟨A.iAdd i 1, _⟩ _ (by (conv => cbv); exact wk_sl (by repeat (first | refine leL_same ?_ | refine leL_any ?_ | exact leL_nil))) (hnext _ rfl) hms⟩
  · rename_i hc
    have hi : i = M.length := by have := ltF' hA rfl (lenI hA hxl) hc; omega
    have hme : met = F ⟨p1, p2⟩ := by
      rw [hmet, hi, List.take_of_length_le (by omega), Bool.eq_iff_iff]
      simp [hall']
    conv => cbv
    refine call_intro hA (h1p) ?_
    conv => cbv
    split
    · rename_i hc1
      conv => cbv
      split
      · rename_i hc2
        conv => cbv
        split
        · conv => cbv
          refine Eq.trans ?_ hq
          show PV.bool (A.bEq _ met) = _
          rw [hme]
          subst hA
          simp [stdOps]
        · rename_i hc3
          have := leF' hA rfl rfl hc3
          omega
      · rename_i hc2
        exact absurd rfl (eqF' hA hn (lenI hA hxl) hc2)
    · rename_i hc1
      exact absurd hpe (eqF' hA rfl rfl hc1)
end Go.Abs
