/-
  Law FlightsMany.
-/
import Derived.Test.YtbljnbpddboohaaM9
import Derived.Test.YtbljnbpddboohaaP2
set_option linter.unusedVariables false
set_option linter.unusedSimpArgs false
namespace Go.Abs
open Go.RowKit Go.Proofs

/-- The flight with the other answer to 'may it be cancelled'. -/
def flipF (f : Flight) : Flight := ⟨f.ID, f.Airline, f.Class, f.Call, f.Ways, f.Window, !f.Cancel⟩
theorem checkF_flip (t : Tables) (f : Flight) : checkF t (flipF f) = checkF t f := rfl

theorem notB {A : Ops} {E : Env} (hA : A = stdOps E) (b : Bool) : A.bNot b = !b := by subst hA; rfl
theorem minI {A : Ops} {E : Env} (hA : A = stdOps E) (a b : Int) : A.iMin a b = min a b := by subst hA; rfl

set_option maxHeartbeats 1000000 in
theorem law_FlightsMany (t : Tables) (f : Flight) (_ : okTables t) (_ : okFlight f) : CallsPV Try.prog 4 [encTables t, encFlight f] (.bool true) := by
  have hfew := ref_Few14 t
  have hfF := ref15_Few f
  have hchk := fl_Check t f
  obtain ⟨b1, hb1⟩ : ∃ b, b = few14 t := ⟨_, rfl⟩
  obtain ⟨b2, hb2⟩ : ∃ b, b = fewF f := ⟨_, rfl⟩
  obtain ⟨ck, hck⟩ : ∃ b, b = checkF t f := ⟨_, rfl⟩
  rw [← hb1] at hfew
  rw [← hb2] at hfF
  rw [← hck] at hchk
  by_cases h0 : ck = 0
  · obtain ⟨k, hk, hc0, hL0, hL1, _, _, _, hw1, hw4⟩ := checkF_kind (hck ▸ h0)
    have hcl := (List.getElem?_eq_some_iff.1 hk).1
    have hme := fl_Measures t f
    have hmg := fl_Measures t (flipF f)
    rw [checkF_flip, ← hck, measuresF, checkF_flip, ← hck, if_pos h0, show measL t (flipF f) = measO k.Longest f.Ways.length (!f.Cancel) by rw [measL]; simp only [flipF]; rw [hk]] at hmg
    rw [← hck, measuresF, ← hck, if_pos h0, measL, hk] at hme
    simp only at hme
    rw [h0] at hchk hme hmg
    clear hck hb1 hb2
    refine callsPV_by (clo := fun _ => false) (rows := false) env_ok Try.func4 rfl (enters_of Try.func4 (by kernel_rfl) rfl) (fun A q P Y hr hA hq => ?_)
    obtain ⟨ss, hss⟩ : ∃ ss, ss = encSectors t.Sectors := ⟨_, rfl⟩
    obtain ⟨cs, hcs⟩ : ∃ cs, cs = encConfigs t.Configs := ⟨_, rfl⟩
    obtain ⟨ws, hws⟩ : ∃ ws, ws = encWays t.Ways := ⟨_, rfl⟩
    obtain ⟨ms, hms⟩ : ∃ ms, ms = encIntLs t.Modes := ⟨_, rfl⟩
    obtain ⟨ks, hks⟩ : ∃ ks, ks = encKinds t.Kinds := ⟨_, rfl⟩
    obtain ⟨nv, hnv⟩ : ∃ nv, nv = t.Volumes := ⟨_, rfl⟩
    have htab : encTables t = .agg [.int .i64 nv, .list 5 ss, .list 3 cs, .list 3 ws, .list 1 ms, .list 6 ks] := by rw [encTables_eq t hss hcs hws hms hks, hnv]
    rw [htab] at hfew hchk hme hmg ⊢
    simp only [flipF] at hmg
    obtain ⟨f1, f2, f3, f4, f5, ⟨f6, f7⟩, f8⟩ := f
    obtain ⟨fl, hfl⟩ : ∃ fl, fl = encInts f5 := ⟨_, rfl⟩
    rw [encFlight_eq _ hfl] at hfF hchk hme hmg ⊢
    simp only at hfF hchk hme hmg hk hcl hc0 hw1 hw4 ⊢
    obtain ⟨M, hM⟩ : ∃ M, M = measO k.Longest f5.length f8 := ⟨_, rfl⟩
    obtain ⟨G, hG⟩ : ∃ G, G = measO k.Longest f5.length (!f8) := ⟨_, rfl⟩
    rw [← hM] at hme
    rw [← hG, ← notB hA] at hmg
    obtain ⟨xs, hxs⟩ : ∃ xs, xs = encOpts M := ⟨_, rfl⟩
    obtain ⟨ys, hys⟩ : ∃ ys, ys = encOpts G := ⟨_, rfl⟩
    rw [← hxs] at hme
    rw [← hys] at hmg
    have hll : fl.length = f5.length := by rw [hfl]; simp [encInts]
    have hxl : xs.length = M.length := by rw [hxs]; simp [encOpts]
    have hyl : ys.length = G.length := by rw [hys]; simp [encOpts]
    conv => cbv
    refine call_intro hA (law15_sane) ?_
    conv => cbv
    split
    · rename_i hc
      cases (nT hA hc)
    conv => cbv
    refine call_intro hA (hfew) ?_
    conv => cbv
    split
    · conv => cbv
      exact hq
    conv => cbv
    refine call_intro hA (hfF) ?_
    conv => cbv
    split
    · conv => cbv
      exact hq
    conv => cbv
    refine call_intro hA (hchk) ?_
    conv => cbv
    split
    · rename_i hc
      cases (neT hA hc rfl)
    conv => cbv
    refine call_intro hA (hme) ?_
    conv => cbv
    obtain ⟨k1, k2, k3, k4, k5, k6⟩ := k
    simp only at hL0 hL1
    have hn4 : f5.length ≤ 4 := by omega
    obtain ⟨B, hB⟩ : ∃ B : Nat, B = (k5 / 10 + 1).toNat * (3 * f5.length) := ⟨_, rfl⟩
    have hB7 : B ≤ 7 * 12 := by rw [hB]; exact Nat.mul_le_mul (by omega) (by omega)
    have hBp : 0 < B := by rw [hB]; exact Nat.mul_pos (by omega) (by omega)
    have e1 : A.iMul 3 (A.lLen fl) = 3 * f5.length := by rw [mulI hA, lenI hA hll]
    have e2 : A.iDiv k5 10 = k5 / 10 := by rw [divI hA, Int.tdiv_eq_ediv_of_nonneg hL0]
    have e3 : A.iAdd 1 (A.iDiv k5 10) = 1 + k5 / 10 := by rw [addI hA, e2]
    have e4 : A.iMul (A.iMul 3 (A.lLen fl)) (A.iAdd 1 (A.iDiv k5 10)) = (B : Int) := by
      rw [mulI hA, e1, e3, hB, Int.natCast_mul, Int.toNat_of_nonneg (by omega), Int.natCast_mul, Int.mul_comm, Int.add_comm]; rfl
    have hMl : M.length = B + if f8 then 1 else 0 := by rw [hM, measO_len, hB]
    have hGl : G.length = B + if !f8 then 1 else 0 := by rw [hG, measO_len, hB]
    have hMt : M.take B = measO k5 f5.length false := by rw [hM, hB]; exact measO_take _ _ _
    have hGt : G.take B = measO k5 f5.length false := by rw [hG, hB]; exact measO_take _ _ _
    have hlast : ∀ a, M[M.length - 1]? = some a → a.Cancel = f8 := fun a h => by rw [hM] at h; exact measO_lastC hL0 (by omega) h
    clear hB hM hG
    have e6 : A.iMin (A.lLen xs) (A.lLen ys) = (B : Int) := by
      rw [minI hA, lenI hA hxl, lenI hA hyl, hMl, hGl]
      cases f8 <;> simp <;> omega
    have e7 : A.lSub xs 0 (A.iMin (A.lLen xs) (A.lLen ys)) = encOpts (M.take B) := by
      rw [e6]; subst hA
      show (xs.take (B : Int).toNat).drop 0 = _
      rw [hxs]; simp [encOpts, List.map_take]
    have e8 : A.lSub ys 0 (A.iMin (A.lLen xs) (A.lLen ys)) = encOpts (G.take B) := by
      rw [e6]; subst hA
      show (ys.take (B : Int).toNat).drop 0 = _
      rw [hys]; simp [encOpts, List.map_take]
    have hsame := ref15_Same (M.take B) (G.take B) e7 e8
    rw [hMt, hGt, decide_eq_true rfl] at hsame
    have hsx : A.sl 0 (A.iMin (A.lLen xs) (A.lLen ys)) (A.lLen xs) := slI hA rfl e6 (lenI hA hxl) (by omega) (by omega) (by omega)
    have hsy : A.sl 0 (A.iMin (A.lLen xs) (A.lLen ys)) (A.lLen ys) := slI hA rfl e6 (lenI hA hyl) (by omega) (by omega) (by omega)
    clear e7 e8 hMt hGt
    refine ⟨draw_intro hA (by kernel_rfl), ?_⟩
    refine ⟨inR' hA e1 (by unfold inI64; omega), ?_⟩
    refine idx_Kind hA hks hc0 (by omega) (fun z v hz hv => ?_)
    obtain rfl := Option.some.inj (hk.symm.trans hz)
    conv => cbv
    refine ⟨⟨by subst hA; show (10 : Int) ≠ 0; decide, inR' hA e2 (by unfold inI64; omega)⟩, inR' hA e3 (by unfold inI64; omega), inR' hA e4 (by unfold inI64; omega), ?_⟩
    cases f8 with
    | true =>
      have e5 : A.iAdd (A.iMul (A.iMul 3 (A.lLen fl)) (A.iAdd 1 (A.iDiv k5 10))) 1 = (B : Int) + 1 := by rw [addI hA, e4]
      simp only [if_true, Bool.not_true, Bool.false_eq_true, if_false] at hMl hGl
      conv => cbv
      refine ⟨inR' hA e5 (by unfold inI64; omega), ?_⟩
      refine ⟨draw_intro hA (by kernel_rfl), ?_⟩
      split
      · rename_i hc
        cases (neT hA hc rfl)
      conv => cbv
      split
      · rename_i hc
        cases (neT' hA (lenI hA hxl) e5 hc (by omega))
      conv => cbv
      have e9 : A.iSub (A.lLen xs) 1 = (M.length : Int) - 1 := by rw [subI hA, lenI hA hxl]
      refine ⟨inR' hA e9 (by unfold inI64; omega), ?_⟩
      have i0 : 0 ≤ A.iSub (A.lLen xs) 1 := by rw [e9]; omega
      have i1 : A.iSub (A.lLen xs) 1 < M.length := by rw [e9]; omega
      refine idx_Opt hA hxs i0 i1 (fun z hz => ?_)
      have hz0 : M[(A.iSub (A.lLen xs) 1).toNat]? = some z := hz
      rw [e9] at hz0
      have hz1 := hlast z (by rw [← hz0]; congr 1; omega)
      clear hz hz0
      obtain ⟨z1, z2, z3, z4⟩ := z
      conv => cbv
      split
      · rename_i hc
        cases (bneT hA hc hz1)
      conv => cbv
      refine call_intro hA (hmg) ?_
      conv => cbv
      refine ⟨draw_intro hA (by kernel_rfl), ?_⟩
      split
      rotate_left
      · rename_i hc
        cases (eqF hA hc rfl)
      conv => cbv
      refine ⟨hsx, hsy, ?_⟩
      refine call_intro hA (hsame) ?_
      conv => cbv
      have e10 : A.iAdd (A.lLen ys) 1 = (G.length : Int) + 1 := by rw [addI hA, lenI hA hyl]
      refine ⟨inR' hA e10 (by unfold inI64; omega), ?_⟩
      split
      rotate_left
      · rename_i hc
        cases (eqF' hA (lenI hA hxl) e10 hc (by omega))
      conv => cbv
      exact hq
    | false =>
      simp only [if_true, Bool.not_false, Bool.false_eq_true, if_false] at hMl hGl
      conv => cbv
      refine ⟨draw_intro hA (by kernel_rfl), ?_⟩
      split
      · rename_i hc
        cases (neT hA hc rfl)
      conv => cbv
      split
      · rename_i hc
        cases (neT' hA (lenI hA hxl) e4 hc (by omega))
      conv => cbv
      have e9 : A.iSub (A.lLen xs) 1 = (M.length : Int) - 1 := by rw [subI hA, lenI hA hxl]
      refine ⟨inR' hA e9 (by unfold inI64; omega), ?_⟩
      have i0 : 0 ≤ A.iSub (A.lLen xs) 1 := by rw [e9]; omega
      have i1 : A.iSub (A.lLen xs) 1 < M.length := by rw [e9]; omega
      refine idx_Opt hA hxs i0 i1 (fun z hz => ?_)
      have hz0 : M[(A.iSub (A.lLen xs) 1).toNat]? = some z := hz
      rw [e9] at hz0
      have hz1 := hlast z (by rw [← hz0]; congr 1; omega)
      clear hz hz0
      obtain ⟨z1, z2, z3, z4⟩ := z
      conv => cbv
      split
      · rename_i hc
        cases (bneT hA hc hz1)
      conv => cbv
      refine call_intro hA (hmg) ?_
      conv => cbv
      refine ⟨draw_intro hA (by kernel_rfl), ?_⟩
      split
      rotate_left
      · rename_i hc
        cases (eqF hA hc rfl)
      conv => cbv
      refine ⟨hsx, hsy, ?_⟩
      refine call_intro hA (hsame) ?_
      conv => cbv
      have e10 : A.iAdd (A.lLen ys) 1 = (G.length : Int) + 1 := by rw [addI hA, lenI hA hyl]
      refine ⟨inR' hA e10 (by unfold inI64; omega), ?_⟩
      split
      · rename_i hc
        cases ((show False by have := eqT' hA (lenI hA hxl) e10 hc; omega))
      conv => cbv
      have e11 : A.iAdd (A.lLen xs) 1 = (M.length : Int) + 1 := by rw [addI hA, lenI hA hxl]
      refine ⟨inR' hA e11 (by unfold inI64; omega), ?_⟩
      refine Eq.trans ?_ hq
      show PV.bool (A.iEq (A.lLen ys) (A.iAdd (A.lLen xs) 1)) = _
      rw [e11, lenI hA hyl, iEqI hA, decide_eq_true (by omega)]
  · clear hck hb1 hb2
    refine callsPV_by (clo := fun _ => false) (rows := false) env_ok Try.func4 rfl (enters_of Try.func4 (by kernel_rfl) rfl) (fun A q P Y hr hA hq => ?_)
    obtain ⟨ss, hss⟩ : ∃ ss, ss = encSectors t.Sectors := ⟨_, rfl⟩
    obtain ⟨cs, hcs⟩ : ∃ cs, cs = encConfigs t.Configs := ⟨_, rfl⟩
    obtain ⟨ws, hws⟩ : ∃ ws, ws = encWays t.Ways := ⟨_, rfl⟩
    obtain ⟨ms, hms⟩ : ∃ ms, ms = encIntLs t.Modes := ⟨_, rfl⟩
    obtain ⟨ks, hks⟩ : ∃ ks, ks = encKinds t.Kinds := ⟨_, rfl⟩
    obtain ⟨nv, hnv⟩ : ∃ nv, nv = t.Volumes := ⟨_, rfl⟩
    have htab : encTables t = .agg [.int .i64 nv, .list 5 ss, .list 3 cs, .list 3 ws, .list 1 ms, .list 6 ks] := by rw [encTables_eq t hss hcs hws hms hks, hnv]
    rw [htab] at hfew hchk ⊢
    obtain ⟨f1, f2, f3, f4, f5, ⟨f6, f7⟩, f8⟩ := f
    obtain ⟨fl, hfl⟩ : ∃ fl, fl = encInts f5 := ⟨_, rfl⟩
    rw [encFlight_eq _ hfl] at hfF hchk ⊢
    simp only at hfF hchk ⊢
    conv => cbv
    refine call_intro hA (law15_sane) ?_
    conv => cbv
    split
    · rename_i hc
      cases (nT hA hc)
    conv => cbv
    refine call_intro hA (hfew) ?_
    conv => cbv
    split
    · conv => cbv
      exact hq
    conv => cbv
    refine call_intro hA (hfF) ?_
    conv => cbv
    split
    · conv => cbv
      exact hq
    conv => cbv
    refine call_intro hA (hchk) ?_
    conv => cbv
    split
    rotate_left
    · rename_i hc
      cases ((h0 (neF hA hc)))
    conv => cbv
    exact hq
end Go.Abs
