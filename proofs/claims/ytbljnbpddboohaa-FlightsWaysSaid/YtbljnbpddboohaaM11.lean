/-
  Law FlightsWays.
-/
import Derived.Test.YtbljnbpddboohaaM9
import Derived.Test.YtbljnbpddboohaaP3
set_option linter.unusedVariables false
set_option linter.unusedSimpArgs false
namespace Go.Abs
open Go.RowKit Go.Proofs

theorem bEqB {A : Ops} {E : Env} (hA : A = stdOps E) (a b : Bool) : A.bEq a b = (a == b) := by subst hA; rfl

set_option maxRecDepth 4000 in
set_option maxHeartbeats 2000000 in
theorem law_FlightsWays (t : Tables) (f : Flight) (way : Int) (_ : okTables t) (_ : okFlight f) (_ : (Lit.int .i64 way).wf = true) : CallsPV Try.prog 6 [encTables t, encFlight f, .int .i64 way] (.bool true) := by
  have hfew := ref_Few14 t
  have hfF := ref15_Few f
  have hchk := fl_Check t f
  obtain ⟨b1, hb1⟩ : ∃ b, b = few14 t := ⟨_, rfl⟩
  obtain ⟨b2, hb2⟩ : ∃ b, b = fewF f := ⟨_, rfl⟩
  obtain ⟨ck, hck⟩ : ∃ b, b = checkF t f := ⟨_, rfl⟩
  rw [← hb1] at hfew
  rw [← hb2] at hfF
  rw [← hck] at hchk
  clear hb1 hb2
  by_cases h0 : ck = 0
  · obtain ⟨k, hk, hc0, _, _, _, _, _, hw1, hw4⟩ := checkF_kind (hck ▸ h0)
    have hcl : f.Class < t.Kinds.length := by have := (List.getElem?_eq_some_iff.1 hk).1; omega
    obtain ⟨x, w0, hx0, hx1, hx2, hw0, hhd, hin⟩ := check_ways (hck ▸ h0)
    have hair := air_Check t
    rw [(checkF_zero (hck ▸ h0)).1] at hair
    have hmore := fl_Check t (moreF f way)
    rw [check_more (hck ▸ h0)] at hmore
    have hGd : goodW t f way = (decide (f.Ways.length + 1 ≤ 4) && !decide (way ∈ f.Ways) && decide (0 ≤ way) && decide (way < t.Ways.length) && !elsewhere t.Ways w0 way) := by rw [goodW, hhd]
    have hel : ∀ v, t.Ways[way.toNat]? = some v → elsewhere t.Ways w0 way = (!decide (v.From = w0.From) || !decide (v.To = w0.To)) := fun v h => by simp only [elsewhere, h]
    generalize goodW t f way = G at hmore hGd
    generalize elsewhere t.Ways w0 way = el at hGd hel
    rw [h0] at hchk
    clear hck hk hhd
    refine callsPV_by (clo := fun _ => false) (rows := false) env_ok Try.func6 rfl (enters_of Try.func6 (by kernel_rfl) rfl) (fun A q P Y hr hA hq => ?_)
    have hlW : t.Ways.length ≤ 9223372036854775807 := by
      have h1 := Real.cell (show Real [.agg _] from hr.mem (p := encTables t) (by simp)) (c := .list 3 (encWays t.Ways)) (by simp)
      have := h1.len; simpa [encWays] using this
    obtain ⟨ss, hss⟩ : ∃ ss, ss = encSectors t.Sectors := ⟨_, rfl⟩
    obtain ⟨cs, hcs⟩ : ∃ cs, cs = encConfigs t.Configs := ⟨_, rfl⟩
    obtain ⟨ws, hws⟩ : ∃ ws, ws = encWays t.Ways := ⟨_, rfl⟩
    obtain ⟨ms, hms⟩ : ∃ ms, ms = encIntLs t.Modes := ⟨_, rfl⟩
    obtain ⟨ks, hks⟩ : ∃ ks, ks = encKinds t.Kinds := ⟨_, rfl⟩
    obtain ⟨nv, hnv⟩ : ∃ nv, nv = t.Volumes := ⟨_, rfl⟩
    have htab : encTables t = .agg [.int .i64 nv, .list 5 ss, .list 3 cs, .list 3 ws, .list 1 ms, .list 6 ks] := by rw [encTables_eq t hss hcs hws hms hks, hnv]
    rw [htab] at hfew hchk hair hmore ⊢
    simp only [moreF] at hmore
    have hwl : ws.length = t.Ways.length := by rw [hws]; simp [encWays]
    have hkl : ks.length = t.Kinds.length := by rw [hks]; simp [encKinds]
    obtain ⟨f1, f2, f3, f4, f5, ⟨f6, f7⟩, f8⟩ := f
    obtain ⟨fl, hfl⟩ : ∃ fl, fl = encInts f5 := ⟨_, rfl⟩
    have hfl' : fl.length = f5.length := by rw [hfl]; simp [encInts]
    have eL : A.lApp (A.lApp [] fl) [.int .i64 way] = encInts (f5 ++ [way]) := by
      subst hA
      show ([] ++ fl) ++ [_] = _
      rw [hfl]; simp [encInts, encInt]
    rw [encFlight_eq _ eL] at hmore
    rw [encFlight_eq _ hfl] at hfF hchk ⊢
    simp only at hfF hchk hmore hin hw1 hw4 hx0 hc0 hcl hGd ⊢
    have eN : (A.lApp (A.lApp [] fl) [.int .i64 way]).length = f5.length + 1 := by rw [eL]; simp [encInts]
    have fin : ∀ g : Bool, g = G → PV.bool (A.bEq (A.iEq (if G then 0 else 150) 0) g) = q := fun g h => by
      rw [← hq, h, iEqI hA, bEqB hA]
      cases G <;> rfl
    generalize hG : (if G then (0 : Int) else 150) = gc at hmore fin
    obtain ⟨w1, w2, w3⟩ := w0
    simp only at hin hel
    conv => cbv
    refine call_intro hA (law15_sane) ?_
    conv => cbv
    split
    · rename_i hc
      cases (nT hA hc)
    conv => cbv
    refine call_intro hA (hfew) ?_
    conv => cbv
    split
    · conv => cbv
      exact hq
    conv => cbv
    refine call_intro hA (hfF) ?_
    conv => cbv
    split
    · conv => cbv
      exact hq
    conv => cbv
    refine call_intro hA (hchk) ?_
    conv => cbv
    split
    · rename_i hc
      cases (neT hA hc rfl)
    conv => cbv
    refine call_intro hA (hair) ?_
    conv => cbv
    split
    · rename_i hc
      cases (neT hA hc rfl)
    conv => cbv
    split
    · rename_i hc
      cases ((show False by have := eqT' hA (lenI hA hfl') rfl hc; omega))
    conv => cbv
    split
    · rename_i hc
      cases ((show False by have := ltT hA hc; omega))
    conv => cbv
    split
    · rename_i hc
      cases ((show False by have := leT' hA (lenI hA hkl) rfl hc; omega))
    conv => cbv
    refine loop_set hA (fun (z : Int × Bool) s => (s.put (some 8) (.val (.int .i64 z.1))).put (some 7) (.val (.bool z.2))) (fun z => 0 ≤ z.1 ∧ z.1 ≤ f5.length ∧ z.2 = decide (way ∈ f5.take z.1.toNat)) (fun z => ((f5.length : Int) - z.1).toNat) (0, false) ?_ ?_ ?_
    · conv => cbv
      exact wk_sl (by repeat (first | refine leL_same ?_ | refine leL_any ?_ | exact leL_nil))
    · exact ⟨Int.le_refl _, by omega, by simp⟩
    rintro R ⟨i, m⟩ ⟨hi0, hi1, hi2⟩ hR
    simp only at hi0 hi1 hi2
    conv => cbv
    split
    · rename_i hc
      have hi : i < f5.length := ltT' hA rfl (lenI hA hfl') hc
      have his : A.iAdd i 1 = i + 1 := addI hA _ _
      have hir : A.inR (A.iAdd i 1) := inR' hA his (by unfold inI64; omega)
      have him : ((f5.length : Int) - A.iAdd i 1).toNat < ((f5.length : Int) - i).toNat := by rw [his]; omega
      have hin' : ∀ b, b = decide (way ∈ f5.take (i + 1).toNat) → 0 ≤ A.iAdd i 1 ∧ A.iAdd i 1 ≤ f5.length ∧ b = decide (way ∈ f5.take (A.iAdd i 1).toNat) := fun b h => by rw [his]; exact ⟨by omega, by omega, h⟩
      conv => cbv
      refine idx_Int hA hfl hi0 hi (fun n hn => ?_)
      have ht := take_snoc' hi0 hn
      obtain ⟨n0, n1, v, hv, hv1, hv2⟩ := hin n (List.mem_of_getElem? hn)
      obtain ⟨v1, v2, v3⟩ := v
      simp only at hv1 hv2
      conv => cbv
      refine ⟨draw_intro hA (by kernel_rfl), ?_⟩
      split
      · rename_i hc
        cases ((show False by have := ltT hA hc; omega))
      conv => cbv
      split
      · rename_i hc
        cases ((show False by have := leT' hA (lenI hA hwl) rfl hc; omega))
      conv => cbv
      refine idx_Way hA hws n0 n1 (fun z lg hz hlg => ?_)
      obtain rfl := Option.some.inj (hv.symm.trans hz)
      conv => cbv
      refine idx_Int hA hfl (Int.le_refl 0) (by omega) (fun z hz => ?_)
      obtain rfl := Option.some.inj ((hx0).symm.trans hz)
      conv => cbv
      refine idx_Way hA hws hx1 hx2 (fun z lg2 hz hlg2 => ?_)
      obtain rfl := Option.some.inj ((hw0).symm.trans hz)
      conv => cbv
      split
      · rename_i hc
        cases (neT hA hc hv1)
      conv => cbv
      refine idx_Way hA hws n0 n1 (fun z lg3 hz hlg3 => ?_)
      obtain rfl := Option.some.inj ((hv).symm.trans hz)
      conv => cbv
      refine idx_Int hA hfl (Int.le_refl 0) (by omega) (fun z hz => ?_)
      obtain rfl := Option.some.inj ((hx0).symm.trans hz)
      conv => cbv
      refine idx_Way hA hws hx1 hx2 (fun z lg4 hz hlg4 => ?_)
      obtain rfl := Option.some.inj ((hw0).symm.trans hz)
      conv => cbv
      split
      · rename_i hc
        cases (neT hA hc hv2)
      conv => cbv
      cases m with
      | true =>
        conv => cbv
        refine ⟨hir, hR (A.iAdd i 1, true) _ ?_ ?_ ?_⟩
        · conv => cbv
          exact wk_sl (by repeat (first | refine leL_same ?_ | refine leL_any ?_ | exact leL_nil))
        · exact hin' true (decide_eq_true (by rw [ht]; exact List.mem_append_left _ (of_decide_eq_true hi2.symm))).symm
        · exact him
      | false =>
        conv => cbv
        refine ⟨hir, hR (A.iAdd i 1, A.iEq n way) _ ?_ ?_ ?_⟩
        · conv => cbv
          exact wk_sl (by repeat (first | refine leL_same ?_ | refine leL_any ?_ | exact leL_nil))
        · refine hin' _ ?_
          rw [iEqI hA]
          refine decide_eq_decide.2 ?_
          rw [ht, List.mem_append, List.mem_singleton]
          exact ⟨fun h => .inr h.symm, fun h => h.elim (fun h => absurd h (of_decide_eq_false hi2.symm)) fun h => h.symm⟩
        · exact him
    rename_i hc
    have hi : i = f5.length := by have := ltF' hA rfl (lenI hA hfl') hc; omega
    rw [hi] at hi2
    rw [List.take_of_length_le (by omega)] at hi2
    conv => cbv
    have r1 : A.room (A.nLen (A.lApp [] fl)) 8 := by
      subst hA
      show ([] ++ fl).length * (8 + 1) ≤ 140737488355328
      rw [List.nil_append]; omega
    have r2 : A.room (A.nLen (A.lApp (A.lApp [] fl) [.int .i64 way])) 8 := by
      have : A.nLen (A.lApp (A.lApp [] fl) [.int .i64 way]) = f5.length + 1 := by rw [← eN]; subst hA; rfl
      rw [this]
      subst hA
      show (f5.length + 1) * (8 + 1) ≤ 140737488355328
      omega
    have r3 : A.tkEq (A.nLen (A.lApp [] fl)) (A.nLen (A.lApp [] fl)) := by subst hA; rfl
    refine ⟨r1, ⟨r3, r2⟩, ?_⟩
    have eNl : A.lLen (A.lApp (A.lApp [] fl) [.int .i64 way]) = ((f5.length + 1 : Nat) : Int) := lenI hA eN
    rw [← hi2] at hGd
    split
    rotate_left
    · rename_i hc
      have h1 := leF' hA eNl rfl hc
      rw [decide_eq_false (p := f5.length + 1 ≤ 4) (by omega)] at hGd
      conv => cbv
      refine call_intro hA (hmore) ?_
      conv => cbv
      exact fin false (by rw [hGd]; rfl)
    rename_i hc
    have h1 := leT' hA eNl rfl hc
    rw [decide_eq_true (p := f5.length + 1 ≤ 4) (by omega)] at hGd
    conv => cbv
    split
    rotate_left
    · rename_i hc
      have h2 := notF hA hc
      conv => cbv
      refine call_intro hA (hmore) ?_
      conv => cbv
      exact fin false (by rw [hGd, h2]; rfl)
    rename_i hc
    have h2 := notT hA hc
    rw [h2] at hGd
    conv => cbv
    split
    rotate_left
    · rename_i hc
      have h3 := leF hA hc
      rw [decide_eq_false (p := 0 ≤ way) (by omega)] at hGd
      conv => cbv
      refine call_intro hA (hmore) ?_
      conv => cbv
      exact fin false (by rw [hGd]; rfl)
    rename_i hc
    have h3 := leT hA hc
    rw [decide_eq_true h3] at hGd
    conv => cbv
    split
    rotate_left
    · rename_i hc
      have h4 := ltF' hA rfl (lenI hA hwl) hc
      rw [decide_eq_false (p := way < t.Ways.length) (by omega)] at hGd
      conv => cbv
      refine call_intro hA (hmore) ?_
      conv => cbv
      exact fin (A.iLt way (A.lLen ws)) (by rw [show A.iLt way (A.lLen ws) = false from hc, hGd]; rfl)
    rename_i hc
    have h4 := ltT' hA rfl (lenI hA hwl) hc
    rw [decide_eq_true h4] at hGd
    conv => cbv
    refine ⟨draw_intro hA (by kernel_rfl), ?_⟩
    refine idx_Way hA hws h3 h4 (fun v lg hv hlg => ?_)
    have hev := hel v hv
    obtain ⟨v1, v2, v3⟩ := v
    simp only at hev
    conv => cbv
    refine idx_Int hA hfl (Int.le_refl 0) (by omega) (fun z hz => ?_)
    obtain rfl := Option.some.inj ((hx0).symm.trans hz)
    conv => cbv
    refine idx_Way hA hws hx1 hx2 (fun z lg2 hz hlg2 => ?_)
    obtain rfl := Option.some.inj ((hw0).symm.trans hz)
    conv => cbv
    split
    rotate_left
    · rename_i hc
      have h5 := eqF hA hc
      rw [decide_eq_false h5] at hev
      conv => cbv
      refine call_intro hA (hmore) ?_
      conv => cbv
      exact fin false (by rw [hGd, hev]; rfl)
    rename_i hc
    have h5 := eqT hA hc
    rw [decide_eq_true h5] at hev
    conv => cbv
    refine idx_Way hA hws h3 h4 (fun z lg3 hz hlg3 => ?_)
    obtain rfl := Option.some.inj ((hv).symm.trans hz)
    conv => cbv
    refine idx_Int hA hfl (Int.le_refl 0) (by omega) (fun z hz => ?_)
    obtain rfl := Option.some.inj ((hx0).symm.trans hz)
    conv => cbv
    refine idx_Way hA hws hx1 hx2 (fun z lg4 hz hlg4 => ?_)
    obtain rfl := Option.some.inj ((hw0).symm.trans hz)
    conv => cbv
    refine call_intro hA (hmore) ?_
    conv => cbv
    exact fin (A.iEq v2 w2) (by rw [hGd, hev, iEqI hA]; cases decide (v2 = w2) <;> rfl)
  · clear hck
    refine callsPV_by (clo := fun _ => false) (rows := false) env_ok Try.func6 rfl (enters_of Try.func6 (by kernel_rfl) rfl) (fun A q P Y hr hA hq => ?_)
    obtain ⟨ss, hss⟩ : ∃ ss, ss = encSectors t.Sectors := ⟨_, rfl⟩
    obtain ⟨cs, hcs⟩ : ∃ cs, cs = encConfigs t.Configs := ⟨_, rfl⟩
    obtain ⟨ws, hws⟩ : ∃ ws, ws = encWays t.Ways := ⟨_, rfl⟩
    obtain ⟨ms, hms⟩ : ∃ ms, ms = encIntLs t.Modes := ⟨_, rfl⟩
    obtain ⟨ks, hks⟩ : ∃ ks, ks = encKinds t.Kinds := ⟨_, rfl⟩
    obtain ⟨nv, hnv⟩ : ∃ nv, nv = t.Volumes := ⟨_, rfl⟩
    have htab : encTables t = .agg [.int .i64 nv, .list 5 ss, .list 3 cs, .list 3 ws, .list 1 ms, .list 6 ks] := by rw [encTables_eq t hss hcs hws hms hks, hnv]
    rw [htab] at hfew hchk ⊢
    obtain ⟨f1, f2, f3, f4, f5, ⟨f6, f7⟩, f8⟩ := f
    obtain ⟨fl, hfl⟩ : ∃ fl, fl = encInts f5 := ⟨_, rfl⟩
    rw [encFlight_eq _ hfl] at hfF hchk ⊢
    simp only at hfF hchk ⊢
    conv => cbv
    refine call_intro hA (law15_sane) ?_
    conv => cbv
    split
    · rename_i hc
      cases (nT hA hc)
    conv => cbv
    refine call_intro hA (hfew) ?_
    conv => cbv
    split
    · conv => cbv
      exact hq
    conv => cbv
    refine call_intro hA (hfF) ?_
    conv => cbv
    split
    · conv => cbv
      exact hq
    conv => cbv
    refine call_intro hA (hchk) ?_
    conv => cbv
    split
    rotate_left
    · rename_i hc
      cases ((h0 (neF hA hc)))
    conv => cbv
    exact hq
end Go.Abs
