/-
  Law TrajectoryReached.
-/
import Derived.Test.YtheofohbhklekaaGreatL3
import Derived.Test.YtheofohbhklekaaGreatR26
import Derived.Test.YtheofohbhklekaaGreatG1
set_option linter.unusedVariables false
set_option linter.unusedSimpArgs false
namespace Go.Abs
open Go.RowKit Go.Proofs

set_option maxRecDepth 4000 in
set_option maxHeartbeats 4000000 in
theorem law_TrajectoryReached (t : Tables) (f : Flight) (o : Opt) (_ : okTables t) (_ : okFlight f) (_ : okOpt o) : CallsPV Tryz.prog 6 [encTables t, encFlight f, encOpt o] (.bool true) := by
  have hfew := law16_few t f
  have h1 := tr_Bounds t f o
  have h3 := ref16_Light t f o 600
  have h4 := tr_All t f o
  have hcase := countE_case t f o
  have hre := @reached t f o
  have hsm := fun h p => @times_small t f o h p
  generalize (few14 t && fewF f) = b1 at hfew
  generalize (!decide (countE t f o = 0) || decide (countN t f o ≤ 600)) = b3 at h3
  generalize planE t f o = e1 at h1 hcase
  generalize boundsB t f o = N at h1 hre
  generalize countE t f o = e2 at h4 hcase hre hsm
  generalize countN t f o = n at hcase
  generalize allP t f o = M at h4 hcase hre hsm
  generalize allT t f o = T at hcase
  obtain ⟨xs, hxs⟩ : ∃ xs, xs = encPaths M := ⟨_, rfl⟩
  obtain ⟨bs, hbs⟩ : ∃ bs, bs = encBounds N := ⟨_, rfl⟩
  have hxl : xs.length = M.length := by rw [hxs]; simp [encPaths]
  have hbl : bs.length = N.length := by rw [hbs]; simp [encBounds]
  rw [← hxs] at h4
  rw [← hbs] at h1
  refine callsPV_by (clo := fun _ => false) (rows := false) env_ok Tryz.func6 rfl (enters_of Tryz.func6 (by kernel_rfl) rfl) (fun A q P Y hr hA hq => ?_)
  obtain ⟨ss, hss⟩ : ∃ ss, ss = encSectors t.Sectors := ⟨_, rfl⟩
  obtain ⟨cs, hcs⟩ : ∃ cs, cs = encConfigs t.Configs := ⟨_, rfl⟩
  obtain ⟨ws, hws⟩ : ∃ ws, ws = encWays t.Ways := ⟨_, rfl⟩
  obtain ⟨ms, hms⟩ : ∃ ms, ms = encIntLs t.Modes := ⟨_, rfl⟩
  obtain ⟨ks, hks⟩ : ∃ ks, ks = encKinds t.Kinds := ⟨_, rfl⟩
  obtain ⟨nv, hnv⟩ : ∃ nv, nv = t.Volumes := ⟨_, rfl⟩
  have htab : encTables t = .agg [.int .i64 nv, .list 5 ss, .list 3 cs, .list 3 ws, .list 1 ms, .list 6 ks] := by rw [encTables_eq t hss hcs hws hms hks, hnv]
  rw [htab] at hfew h1 h3 h4 ⊢
  obtain ⟨f1, f2, f3, f4, f5, ⟨f6, f7⟩, f8⟩ := f
  obtain ⟨fl, hfl⟩ : ∃ fl, fl = encInts f5 := ⟨_, rfl⟩
  rw [encFlight_eq _ hfl] at hfew h1 h3 h4 ⊢
  obtain ⟨a1, a2, a3, a4⟩ := o
  simp only at hfew h1 h3 h4 ⊢
  conv => cbv
  refine call_intro hA (law16_sane) ?_
  conv => cbv
  split
  · rename_i hc
    cases (nT hA hc)
  conv => cbv
  refine call_intro hA (hfew) ?_
  conv => cbv
  split
  · conv => cbv
    exact hq
  conv => cbv
  refine call_intro hA (h3) ?_
  conv => cbv
  split
  · conv => cbv
    exact hq
  conv => cbv
  refine call_intro hA (h1) ?_
  conv => cbv
  refine call_intro hA (h4) ?_
  conv => cbv
  rcases hcase with ⟨h0, hM, hn⟩ | ⟨h0, hp0, _, _, hM1, hM2⟩
  · have hx0 : xs.length = 0 := by rw [hxl, hM]; rfl
    have hlast : PV.bool (A.iEq (A.lLen xs) 0) = q := by
      refine Eq.trans ?_ hq
      rw [iEqI hA, lenI hA hx0]
      rfl
    split
    · conv => cbv
      exact hlast
    · conv => cbv
      split
      rotate_left
      · rename_i hc
        cases (h0 (neF hA hc))
      conv => cbv
      exact hlast
  have hre' := hre h0
  have hsm' := fun p hp => hsm h0 p hp
  clear hre hsm hfew h1 h3 h4
  obtain ⟨p0, hp0m⟩ : ∃ p, p ∈ M := by cases M with | nil => simp at hM1 | cons a _ => exact ⟨a, by simp⟩
  have hN9 : N.length ≤ 9 := by rw [← (hre'.1 p0 hp0m).1]; exact (hsm' p0 hp0m).2.1
  split
  · rename_i hc
    cases (neT' hA hp0 rfl hc rfl)
  conv => cbv
  split
  · rename_i hc
    cases (neT' hA h0 rfl hc rfl)
  conv => cbv
  have nT2 : ∀ {b : Bool}, A.bNot b = true → b = true → False := fun h h' => by rw [notT hA h] at h'; cases h'
  refine loop_set hA (fun (i : Int) s => s.put (some 11) (.val (.int .i64 i))) (fun i => 0 ≤ i ∧ i ≤ (N.length : Int) ∧ (fun _ => True) i) (fun i => ((N.length : Int) - i).toNat) 0 ?_ ?_ ?_
  · conv => cbv
    exact wk_sl (by repeat (first | refine leL_same ?_ | refine leL_any ?_ | exact leL_nil))
  · exact ⟨Int.le_refl _, by omega, trivial⟩
  rintro R k ⟨hk0, hk1, hk2⟩ hRk
  conv => cbv
  split
  ·   rename_i hc
      have hk : k < (N.length : Int) := ltT' hA rfl (lenI hA hbl) hc
      have hks : A.iAdd k 1 = k + 1 := addI hA _ _
      have hkr : A.inR (A.iAdd k 1) := inR' hA hks (by unfold inI64; omega)
      have hkm : ((N.length : Int) - A.iAdd k 1).toNat < ((N.length : Int) - k).toNat := by rw [hks]; omega
      have hkn : (fun _ => True) (k + 1) → 0 ≤ A.iAdd k 1 ∧ A.iAdd k 1 ≤ (N.length : Int) ∧ (fun _ => True) (A.iAdd k 1) := fun h => by rw [hks]; exact ⟨by omega, by omega, h⟩
      simp only at hkn
      conv => cbv
      obtain ⟨B, hB⟩ : ∃ B, N[k.toNat]? = some B := ⟨_, List.getElem?_eq_getElem (show k.toNat < N.length by omega)⟩
      refine loop_set hA (fun (z : Int × Bool × Bool) s => ((s.put (some 14) (.val (.int .i64 z.1))).put (some 12) (.val (.bool z.2.1))).put (some 13) (.val (.bool z.2.2))) (fun z => 0 ≤ z.1 ∧ z.1 ≤ M.length ∧ (z.2.1 = true ↔ ∃ a ∈ M.take z.1.toNat, a.Times[k.toNat]? = some B.Lo) ∧ (z.2.2 = true ↔ ∃ a ∈ M.take z.1.toNat, a.Times[k.toNat]? = some B.Hi)) (fun z => ((M.length : Int) - z.1).toNat) (0, false, false) ?_ ?_ ?_
      · conv => cbv
        exact wk_sl (by repeat (first | refine leL_same ?_ | refine leL_any ?_ | exact leL_nil))
      · exact ⟨Int.le_refl _, by omega, by simp, by simp⟩
      rintro R2 ⟨i, lo, up⟩ ⟨hi0, hi1, hlo, hup⟩ hR2
      simp only at hi0 hi1 hlo hup
      conv => cbv
      split
      · rename_i hc
        have hi : i < M.length := ltT' hA rfl (lenI hA hxl) hc
        have his : A.iAdd i 1 = i + 1 := addI hA _ _
        have hir : A.inR (A.iAdd i 1) := inR' hA his (by unfold inI64; omega)
        have hms : ((M.length : Int) - A.iAdd i 1).toNat < ((M.length : Int) - i).toNat := by rw [his]; omega
        conv => cbv
        refine ⟨draw_intro hA (by kernel_rfl), ?_⟩
        refine idx_Path hA hxs hi0 hi (fun x v hx0 hv => ?_)
        have hxm : x ∈ M := List.mem_of_getElem? hx0
        obtain ⟨hxl1, hxb⟩ := hre'.1 x hxm
        have hvl : v.length = x.Times.length := by rw [hv]; simp [encInts]
        conv => cbv
        split
        · rename_i hc
          cases (neT' hA (lenI hA hvl) (lenI hA hbl) hc (by rw [hxl1]))
        conv => cbv
        refine idx_Path hA hxs hi0 hi (fun z zv hz hzv => ?_)
        obtain rfl := Option.some.inj ((hx0).symm.trans hz)
        obtain rfl : v = zv := hv.trans hzv.symm
        clear hz hzv
        conv => cbv
        refine idx_Int hA hv hk0 (by omega) (fun y hy => ?_)
        conv => cbv
        refine idx_Bound hA hbs hk0 hk (fun z hz => ?_)
        obtain rfl := Option.some.inj (hB.symm.trans hz)
        clear hz
        have hbd := hxb k.toNat y B hy hB
        have hnext : ∀ a b, a = (lo || decide (y = B.Lo)) → b = (up || decide (y = B.Hi)) → 0 ≤ A.iAdd i 1 ∧ A.iAdd i 1 ≤ (M.length : Int) ∧ (a = true ↔ ∃ a ∈ M.take (A.iAdd i 1).toNat, a.Times[k.toNat]? = some B.Lo) ∧ (b = true ↔ ∃ a ∈ M.take (A.iAdd i 1).toNat, a.Times[k.toNat]? = some B.Hi) := by
          intro a b ha hb
          rw [his, ha, hb]
          refine ⟨by omega, by omega, ?_, ?_⟩
          · rw [take_exI hi0 hx0 (fun a => a.Times[k.toNat]? = some B.Lo), ← hlo, hy]; simp
          · rw [take_exI hi0 hx0 (fun a => a.Times[k.toNat]? = some B.Hi), ← hup, hy]; simp
        conv => cbv
        split
        · rename_i hc
          cases ((show False by have h1 : y < B.Lo := ltT hA hc; omega))
        conv => cbv
        refine idx_Path hA hxs hi0 hi (fun z zv hz hzv => ?_)
        obtain rfl := Option.some.inj ((hx0).symm.trans hz)
        obtain rfl : v = zv := hv.trans hzv.symm
        clear hz hzv
        conv => cbv
        refine idx_Int hA hv hk0 (by omega) (fun z hz => ?_)
        obtain rfl := Option.some.inj (hy.symm.trans hz)
        clear hz
        conv => cbv
        refine idx_Bound hA hbs hk0 hk (fun z hz => ?_)
        obtain rfl := Option.some.inj (hB.symm.trans hz)
        clear hz
        conv => cbv
        split
        · rename_i hc
          cases ((show False by have h1 : B.Hi < y := ltT hA hc; omega))
        conv => cbv
        refine ⟨draw_intro hA (by kernel_rfl), ?_⟩
        split
        · conv => cbv
          refine ⟨draw_intro hA (by kernel_rfl), ?_⟩
          split
          · conv => cbv
            exact ⟨hir, hR2 ⟨A.iAdd i 1, true, true⟩ _ (by (conv => cbv); exact wk_sl (by repeat (first | refine leL_same ?_ | refine leL_any ?_ | exact leL_nil))) (hnext _ _ rfl rfl) hms⟩
          · conv => cbv
            refine idx_Path hA hxs hi0 hi (fun z zv hz hzv => ?_)
            obtain rfl := Option.some.inj ((hx0).symm.trans hz)
            obtain rfl : v = zv := hv.trans hzv.symm
            clear hz hzv
            conv => cbv
            refine idx_Int hA hv hk0 (by omega) (fun z hz => ?_)
            obtain rfl := Option.some.inj (hy.symm.trans hz)
            clear hz
            conv => cbv
            refine idx_Bound hA hbs hk0 hk (fun z hz => ?_)
            obtain rfl := Option.some.inj (hB.symm.trans hz)
            clear hz
            conv => cbv
            exact ⟨hir, hR2 ⟨A.iAdd i 1, true, A.iEq y B.Hi⟩ _ (by (conv => cbv); exact wk_sl (by repeat (first | refine leL_same ?_ | refine leL_any ?_ | exact leL_nil))) (hnext _ _ rfl (by rw [iEqI hA]; rfl)) hms⟩
        · conv => cbv
          refine idx_Path hA hxs hi0 hi (fun z zv hz hzv => ?_)
          obtain rfl := Option.some.inj ((hx0).symm.trans hz)
          obtain rfl : v = zv := hv.trans hzv.symm
          clear hz hzv
          conv => cbv
          refine idx_Int hA hv hk0 (by omega) (fun z hz => ?_)
          obtain rfl := Option.some.inj (hy.symm.trans hz)
          clear hz
          conv => cbv
          refine idx_Bound hA hbs hk0 hk (fun z hz => ?_)
          obtain rfl := Option.some.inj (hB.symm.trans hz)
          clear hz
          conv => cbv
          refine ⟨draw_intro hA (by kernel_rfl), ?_⟩
          split
          · conv => cbv
            exact ⟨hir, hR2 ⟨A.iAdd i 1, A.iEq y B.Lo, true⟩ _ (by (conv => cbv); exact wk_sl (by repeat (first | refine leL_same ?_ | refine leL_any ?_ | exact leL_nil))) (hnext _ _ (by rw [iEqI hA]; rfl) rfl) hms⟩
          · conv => cbv
            refine idx_Path hA hxs hi0 hi (fun z zv hz hzv => ?_)
            obtain rfl := Option.some.inj ((hx0).symm.trans hz)
            obtain rfl : v = zv := hv.trans hzv.symm
            clear hz hzv
            conv => cbv
            refine idx_Int hA hv hk0 (by omega) (fun z hz => ?_)
            obtain rfl := Option.some.inj (hy.symm.trans hz)
            clear hz
            conv => cbv
            refine idx_Bound hA hbs hk0 hk (fun z hz => ?_)
            obtain rfl := Option.some.inj (hB.symm.trans hz)
            clear hz
            conv => cbv
            exact ⟨hir, hR2 ⟨A.iAdd i 1, A.iEq y B.Lo, A.iEq y B.Hi⟩ _ (by (conv => cbv); exact wk_sl (by repeat (first | refine leL_same ?_ | refine leL_any ?_ | exact leL_nil))) (hnext _ _ (show A.iEq y B.Lo = (false || decide (y = B.Lo)) by rw [iEqI hA]; rfl) (show A.iEq y B.Hi = (false || decide (y = B.Hi)) by rw [iEqI hA]; rfl)) hms⟩
      · rename_i hc
        have hi : i = M.length := by have := ltF' hA rfl (lenI hA hxl) hc; omega
        have hlo1 : lo = true := by
          obtain ⟨p, h1, h2⟩ := hre'.2.1
          rw [hlo, List.take_of_length_le (by omega)]
          exact ⟨p, h1, by rw [h2, List.getElem?_map, hB]; rfl⟩
        have hup1 : up = true := by
          obtain ⟨p, h1, h2⟩ := hre'.2.2
          rw [hup, List.take_of_length_le (by omega)]
          exact ⟨p, h1, by rw [h2, List.getElem?_map, hB]; rfl⟩
        conv => cbv
        split
        · rename_i hc
          cases (nT2 hc hlo1)
        conv => cbv
        split
        · rename_i hc
          cases (nT2 hc hup1)
        conv => cbv
        exact ⟨hkr, hRk (A.iAdd k 1) _ (by (conv => cbv); exact wk_sl (by repeat (first | refine leL_same ?_ | refine leL_any ?_ | exact leL_nil))) (hkn trivial) hkm⟩
  rename_i hc
  have hk : k = (N.length : Int) := by have := ltF' hA rfl (lenI hA hbl) hc; omega
  conv => cbv
  exact hq
end Go.Abs
