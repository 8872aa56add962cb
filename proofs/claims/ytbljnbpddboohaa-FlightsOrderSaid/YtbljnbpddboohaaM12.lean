/-
  Law FlightsOrder.
-/
import Derived.Test.YtbljnbpddboohaaM9
import Derived.Test.YtbljnbpddboohaaP2
set_option linter.unusedVariables false
set_option linter.unusedSimpArgs false
namespace Go.Abs
open Go.RowKit Go.Proofs

theorem delay_facts {t : Tables} {f : Flight} (h : checkF t f = 0) {o : Opt} (ho : o ∈ measL t f) : ∃ n w : Int, delayF t f o = (n, w, 0) ∧ 0 ≤ n ∧ n ≤ 120 ∧ n ≤ w ∧ w ≤ 8 * n := by
  obtain ⟨k, hk, hc0, hL0, hL1, _, hW1, hW8, hw1, hw4⟩ := checkF_kind h
  have hm := ho
  rw [measL, hk] at hm
  have hb := measO_mem hL0 hL1 hm
  have hn : 0 ≤ minutesOf o ∧ minutesOf o ≤ 120 := by unfold minutesOf; split <;> omega
  refine ⟨minutesOf o, minutesOf o * k.Weight, ?_, hn.1, hn.2, ?_, ?_⟩
  · rw [delayF, if_pos h, if_pos ho, weightOf, hk]
  · have := Int.mul_le_mul_of_nonneg_left hW1 hn.1
    omega
  · have := Int.mul_le_mul_of_nonneg_left hW8 hn.1
    omega

theorem cmpOpt_lt {a b : Opt} (h : ltO a b) : cmpOpt a b = -1 := by
  rcases cmpOpt_spec a b with ⟨e, _⟩ | ⟨_, e⟩ | ⟨_, e⟩
  · exact e
  · exact absurd (e ▸ h) (ltO_irrefl _)
  · exact absurd (ltO_trans h e) (ltO_irrefl _)

theorem optEq {A : Ops} {E : Env} (hA : A = stdOps E) (x1 x2 x3 : Int) (x4 : Bool) (o1 o2 o3 : Int) (o4 : Bool) :
    A.bAnd (A.iEq x1 o1) (A.bAnd (A.iEq x2 o2) (A.bAnd (A.iEq x3 o3) (A.bAnd (A.bEq x4 o4) true))) = decide ((⟨x1, x2, x3, x4⟩ : Opt) = ⟨o1, o2, o3, o4⟩) := by
  subst hA
  rw [Bool.eq_iff_iff]
  simp [stdOps]

set_option maxHeartbeats 2000000 in
theorem law_FlightsOrder (t : Tables) (f : Flight) (o : Opt) (_ : okTables t) (_ : okFlight f) (_ : okOpt o) : CallsPV Try.prog 3 [encTables t, encFlight f, encOpt o] (.bool true) := by
  have hfew := ref_Few14 t
  have hfF := ref15_Few f
  have hchk := fl_Check t f
  have hme := fl_Measures t f
  have hde := fun o => fl_Delay t f o
  obtain ⟨b1, hb1⟩ : ∃ b, b = few14 t := ⟨_, rfl⟩
  obtain ⟨b2, hb2⟩ : ∃ b, b = fewF f := ⟨_, rfl⟩
  obtain ⟨ck, hck⟩ : ∃ b, b = checkF t f := ⟨_, rfl⟩
  rw [← hb1] at hfew
  rw [← hb2] at hfF
  rw [← hck] at hchk
  clear hb1 hb2
  by_cases h0 : ck = 0
  · obtain ⟨k, hk, hc0, hL0, hL1, _, _, _, hw1, hw4⟩ := checkF_kind (hck ▸ h0)
    obtain ⟨M, hM⟩ : ∃ M, M = measL t f := ⟨_, rfl⟩
    have hMO : M = measO k.Longest f.Ways.length f.Cancel := by rw [hM, measL, hk]
    have hsort : ∀ (i : Nat) (a b : Opt), M[i]? = some a → M[i + 1]? = some b → cmpOpt a b = -1 := fun i a b h1 h2 => cmpOpt_lt (measO_sorted (L := k.Longest) (c := f.Cancel) hw1 (hMO ▸ h1) (hMO ▸ h2))
    have hhead : M[0]? = some ⟨0, 0, 0, false⟩ := by rw [hMO]; exact measO_head hL0 hw1
    have hpos : 0 < M.length := (List.getElem?_eq_some_iff.1 hhead).1
    have hml : M.length ≤ 1000 := by
      rw [hMO, measO_len]
      have h1 : (k.Longest / 10 + 1).toNat ≤ 7 := by omega
      have h2 : (k.Longest / 10 + 1).toNat * (3 * f.Ways.length) ≤ 7 * (3 * 4) := Nat.mul_le_mul h1 (by omega)
      split <;> omega
    have hdel : ∀ x ∈ M, ∃ n w : Int, CallsPV Try.prog 14 [encTables t, encFlight f, encOpt x] (.tup [.int .i64 n, .int .i64 w, .int .i64 0]) ∧ 0 ≤ n ∧ n ≤ 120 ∧ n ≤ w ∧ w ≤ 8 * n := fun x hx => by
      obtain ⟨n, w, e, h⟩ := delay_facts (hck ▸ h0) (hM ▸ hx)
      have := hde x
      rw [e] at this
      exact ⟨n, w, this, h⟩
    have hdo : ∃ n w : Int, CallsPV Try.prog 14 [encTables t, encFlight f, encOpt o] (.tup [.int .i64 n, .int .i64 w, .int .i64 (if o ∈ M then 0 else 150)]) := by
      have := hde o
      rw [delayF, ← hck, if_pos h0, ← hM] at this
      by_cases hoM : o ∈ M
      · rw [if_pos hoM] at this ⊢
        exact ⟨_, _, this⟩
      · rw [if_neg hoM] at this ⊢
        exact ⟨_, _, this⟩
    rw [measuresF, ← hck, if_pos h0, ← hM, h0] at hme
    rw [h0] at hchk
    clear hck hM hde hMO hk hc0 hL0 hL1 hw1 hw4
    obtain ⟨dn, dw, hdo⟩ := hdo
    obtain ⟨om, hom⟩ : ∃ b : Bool, b = decide (o ∈ M) := ⟨_, rfl⟩
    obtain ⟨g, hg⟩ : ∃ g : Int, g = if o ∈ M then 0 else 150 := ⟨_, rfl⟩
    rw [← hg] at hdo
    have hgm : (g = 0 ↔ om = true) := by rw [hg, hom]; by_cases h : o ∈ M <;> simp [h]
    refine callsPV_by (clo := fun _ => false) (rows := false) env_ok Try.func3 rfl (enters_of Try.func3 (by kernel_rfl) rfl) (fun A q P Y hr hA hq => ?_)
    obtain ⟨ss, hss⟩ : ∃ ss, ss = encSectors t.Sectors := ⟨_, rfl⟩
    obtain ⟨cs, hcs⟩ : ∃ cs, cs = encConfigs t.Configs := ⟨_, rfl⟩
    obtain ⟨ws, hws⟩ : ∃ ws, ws = encWays t.Ways := ⟨_, rfl⟩
    obtain ⟨ms, hms⟩ : ∃ ms, ms = encIntLs t.Modes := ⟨_, rfl⟩
    obtain ⟨ks, hks⟩ : ∃ ks, ks = encKinds t.Kinds := ⟨_, rfl⟩
    obtain ⟨nv, hnv⟩ : ∃ nv, nv = t.Volumes := ⟨_, rfl⟩
    have htab : encTables t = .agg [.int .i64 nv, .list 5 ss, .list 3 cs, .list 3 ws, .list 1 ms, .list 6 ks] := by rw [encTables_eq t hss hcs hws hms hks, hnv]
    rw [htab] at hfew hchk hme hdo ⊢
    have hdel' := hdel
    rw [htab] at hdel'
    clear hdel
    obtain ⟨f1, f2, f3, f4, f5, ⟨f6, f7⟩, f8⟩ := f
    obtain ⟨fl, hfl⟩ : ∃ fl, fl = encInts f5 := ⟨_, rfl⟩
    rw [encFlight_eq _ hfl] at hfF hchk hme hdo hdel' ⊢
    simp only at hfF hchk hme hdo hdel' ⊢
    obtain ⟨xs, hxs⟩ : ∃ xs, xs = encOpts M := ⟨_, rfl⟩
    rw [← hxs] at hme
    have hxl : xs.length = M.length := by rw [hxs]; simp [encOpts]
    obtain ⟨o1, o2, o3, o4⟩ := o
    conv => cbv
    refine call_intro hA (law15_sane) ?_
    conv => cbv
    split
    · rename_i hc
      cases (nT hA hc)
    conv => cbv
    refine call_intro hA (hfew) ?_
    conv => cbv
    split
    · conv => cbv
      exact hq
    conv => cbv
    refine call_intro hA (hfF) ?_
    conv => cbv
    split
    · conv => cbv
      exact hq
    conv => cbv
    refine call_intro hA (hme) ?_
    conv => cbv
    split
    · rename_i hc
      cases (neT hA hc rfl)
    conv => cbv
    split
    · rename_i hc
      cases ((show False by have := eqT' hA (lenI hA hxl) rfl hc; omega))
    conv => cbv
    refine idx_Opt hA hxs (Int.le_refl 0) (by omega) (fun x hx => ?_)
    obtain rfl := Option.some.inj (hhead.symm.trans hx)
    conv => cbv
    split
    · rename_i hc
      have hf : False := by subst hA; simp [stdOps] at hc
      cases hf
    conv => cbv
    refine loop_set hA (fun (z : Int × Bool) s => (s.put (some 10) (.val (.int .i64 z.1))).put (some 9) (.val (.bool z.2))) (fun z => 0 ≤ z.1 ∧ z.1 ≤ M.length ∧ z.2 = decide ((⟨o1, o2, o3, o4⟩ : Opt) ∈ M.take z.1.toNat)) (fun z => ((M.length : Int) - z.1).toNat) (0, false) ?_ ?_ ?_
    · conv => cbv
      exact wk_sl (by repeat (first | refine leL_same ?_ | refine leL_any ?_ | exact leL_nil))
    · exact ⟨Int.le_refl _, by omega, by simp⟩
    rintro R ⟨i, m⟩ ⟨hi0, hi1, hi2⟩ hR
    simp only at hi0 hi1 hi2
    conv => cbv
    split
    · rename_i hc
      have hi : i < M.length := ltT' hA rfl (lenI hA hxl) hc
      have his : A.iAdd i 1 = i + 1 := addI hA _ _
      have hir : A.inR (A.iAdd i 1) := inR' hA his (by unfold inI64; omega)
      have him : ((M.length : Int) - A.iAdd i 1).toNat < ((M.length : Int) - i).toNat := by rw [his]; omega
      have hin : ∀ b, b = decide ((⟨o1, o2, o3, o4⟩ : Opt) ∈ M.take (i + 1).toNat) → 0 ≤ A.iAdd i 1 ∧ A.iAdd i 1 ≤ M.length ∧ b = decide ((⟨o1, o2, o3, o4⟩ : Opt) ∈ M.take (A.iAdd i 1).toNat) := fun b h => by rw [his]; exact ⟨by omega, by omega, h⟩
      obtain ⟨x, hx⟩ : ∃ x, M[i.toNat]? = some x := ⟨M[i.toNat]'(by omega), List.getElem?_eq_getElem (by omega)⟩
      have ht := take_snoc' hi0 hx
      have hxm := List.mem_of_getElem? hx
      obtain ⟨n, w, hd1, n0, n1, n2, n3⟩ := hdel' x hxm
      obtain ⟨x1, x2, x3, x4⟩ := x
      conv => cbv
      refine ⟨draw_intro hA (by kernel_rfl), ?_⟩
      split
      · rename_i hc
        have hi9 := ltT hA hc
        have e1 : A.iSub i 1 = i - 1 := subI hA _ _
        obtain ⟨p, hp⟩ : ∃ p, M[(i - 1).toNat]? = some p := ⟨M[(i - 1).toNat]'(by omega), List.getElem?_eq_getElem (by omega)⟩
        have hcmp := fl_Compare p ⟨x1, x2, x3, x4⟩
        rw [hsort _ _ _ hp (by rw [show (i - 1).toNat + 1 = i.toNat by omega]; exact hx)] at hcmp
        conv => cbv
        refine ⟨inR' hA e1 (by unfold inI64; omega), ?_⟩
        refine idx_Opt hA hxs (n := A.iSub i 1) (by rw [e1]; omega) (by rw [e1]; omega) (fun y hy => ?_)
        rw [e1] at hy
        obtain rfl := Option.some.inj (hp.symm.trans hy)
        obtain ⟨p1, p2, p3, p4⟩ := p
        conv => cbv
        refine idx_Opt hA hxs hi0 hi (fun y hy => ?_)
        obtain rfl := Option.some.inj (hx.symm.trans hy)
        conv => cbv
        refine call_intro hA (hcmp) ?_
        conv => cbv
        split
        · rename_i hc
          cases (neT hA hc rfl)
        conv => cbv
        refine ⟨draw_intro hA (by kernel_rfl), ?_⟩
        refine idx_Opt hA hxs hi0 hi (fun y hy => ?_)
        obtain rfl := Option.some.inj (hx.symm.trans hy)
        conv => cbv
        refine call_intro hA (hd1) ?_
        conv => cbv
        split
        · rename_i hc
          cases (neT hA hc rfl)
        conv => cbv
        split
        · rename_i hc
          cases ((show False by have := ltT hA hc; omega))
        conv => cbv
        split
        · rename_i hc
          cases ((show False by have := ltT hA hc; omega))
        conv => cbv
        split
        · rename_i hc
          cases ((show False by have := ltT hA hc; omega))
        conv => cbv
        refine ⟨inR' hA (mulI hA 8 n) (by unfold inI64; omega), ?_⟩
        conv => cbv
        split
        · rename_i hc
          cases ((show False by have := ltT' hA (mulI hA 8 n) rfl hc; omega))
        conv => cbv
        refine ⟨draw_intro hA (by kernel_rfl), ?_⟩
        cases m with
        | true =>
          conv => cbv
          refine ⟨hir, hR (A.iAdd i 1, true) _ ?_ ?_ ?_⟩
          · conv => cbv
            exact wk_sl (by repeat (first | refine leL_same ?_ | refine leL_any ?_ | exact leL_nil))
          · exact hin true (decide_eq_true (by rw [ht]; exact List.mem_append_left _ (of_decide_eq_true hi2.symm))).symm
          · exact him
        | false =>
          conv => cbv
          refine idx_Opt hA hxs hi0 hi (fun y hy => ?_)
          obtain rfl := Option.some.inj (hx.symm.trans hy)
          conv => cbv
          refine ⟨hir, hR (A.iAdd i 1, A.bAnd (A.iEq x1 o1) (A.bAnd (A.iEq x2 o2) (A.bAnd (A.iEq x3 o3) (A.bAnd (A.bEq x4 o4) true)))) _ ?_ ?_ ?_⟩
          · conv => cbv
            exact wk_sl (by repeat (first | refine leL_same ?_ | refine leL_any ?_ | exact leL_nil))
          · refine hin _ ?_
            rw [optEq hA]
            refine decide_eq_decide.2 ?_
            rw [ht, List.mem_append, List.mem_singleton]
            exact ⟨fun h => .inr h.symm, fun h => h.elim (fun h => absurd h (of_decide_eq_false hi2.symm)) fun h => h.symm⟩
          · exact him
      · conv => cbv
        refine ⟨draw_intro hA (by kernel_rfl), ?_⟩
        refine idx_Opt hA hxs hi0 hi (fun y hy => ?_)
        obtain rfl := Option.some.inj (hx.symm.trans hy)
        conv => cbv
        refine call_intro hA (hd1) ?_
        conv => cbv
        split
        · rename_i hc
          cases (neT hA hc rfl)
        conv => cbv
        split
        · rename_i hc
          cases ((show False by have := ltT hA hc; omega))
        conv => cbv
        split
        · rename_i hc
          cases ((show False by have := ltT hA hc; omega))
        conv => cbv
        split
        · rename_i hc
          cases ((show False by have := ltT hA hc; omega))
        conv => cbv
        refine ⟨inR' hA (mulI hA 8 n) (by unfold inI64; omega), ?_⟩
        conv => cbv
        split
        · rename_i hc
          cases ((show False by have := ltT' hA (mulI hA 8 n) rfl hc; omega))
        conv => cbv
        refine ⟨draw_intro hA (by kernel_rfl), ?_⟩
        cases m with
        | true =>
          conv => cbv
          refine ⟨hir, hR (A.iAdd i 1, true) _ ?_ ?_ ?_⟩
          · conv => cbv
            exact wk_sl (by repeat (first | refine leL_same ?_ | refine leL_any ?_ | exact leL_nil))
          · exact hin true (decide_eq_true (by rw [ht]; exact List.mem_append_left _ (of_decide_eq_true hi2.symm))).symm
          · exact him
        | false =>
          conv => cbv
          refine idx_Opt hA hxs hi0 hi (fun y hy => ?_)
          obtain rfl := Option.some.inj (hx.symm.trans hy)
          conv => cbv
          refine ⟨hir, hR (A.iAdd i 1, A.bAnd (A.iEq x1 o1) (A.bAnd (A.iEq x2 o2) (A.bAnd (A.iEq x3 o3) (A.bAnd (A.bEq x4 o4) true)))) _ ?_ ?_ ?_⟩
          · conv => cbv
            exact wk_sl (by repeat (first | refine leL_same ?_ | refine leL_any ?_ | exact leL_nil))
          · refine hin _ ?_
            rw [optEq hA]
            refine decide_eq_decide.2 ?_
            rw [ht, List.mem_append, List.mem_singleton]
            exact ⟨fun h => .inr h.symm, fun h => h.elim (fun h => absurd h (of_decide_eq_false hi2.symm)) fun h => h.symm⟩
          · exact him
    rename_i hc
    have hi : i = M.length := by have := ltF' hA rfl (lenI hA hxl) hc; omega
    rw [hi] at hi2
    rw [List.take_of_length_le (by omega), ← hom] at hi2
    conv => cbv
    refine call_intro hA (hdo) ?_
    conv => cbv
    refine Eq.trans ?_ hq
    show PV.bool (A.bEq m (A.iEq g 0)) = _
    have e : decide (g = 0) = om := by rw [Bool.eq_iff_iff, decide_eq_true_iff]; exact hgm
    rw [hi2, iEqI hA, e]
    subst hA; simp [stdOps]
  · have hml : measuresF t f = [] := by rw [measuresF, if_neg (hck ▸ h0)]
    rw [hml, ← hck] at hme
    clear hck hde
    refine callsPV_by (clo := fun _ => false) (rows := false) env_ok Try.func3 rfl (enters_of Try.func3 (by kernel_rfl) rfl) (fun A q P Y hr hA hq => ?_)
    obtain ⟨ss, hss⟩ : ∃ ss, ss = encSectors t.Sectors := ⟨_, rfl⟩
    obtain ⟨cs, hcs⟩ : ∃ cs, cs = encConfigs t.Configs := ⟨_, rfl⟩
    obtain ⟨ws, hws⟩ : ∃ ws, ws = encWays t.Ways := ⟨_, rfl⟩
    obtain ⟨ms, hms⟩ : ∃ ms, ms = encIntLs t.Modes := ⟨_, rfl⟩
    obtain ⟨ks, hks⟩ : ∃ ks, ks = encKinds t.Kinds := ⟨_, rfl⟩
    obtain ⟨nv, hnv⟩ : ∃ nv, nv = t.Volumes := ⟨_, rfl⟩
    have htab : encTables t = .agg [.int .i64 nv, .list 5 ss, .list 3 cs, .list 3 ws, .list 1 ms, .list 6 ks] := by rw [encTables_eq t hss hcs hws hms hks, hnv]
    rw [htab] at hfew hchk hme ⊢
    obtain ⟨f1, f2, f3, f4, f5, ⟨f6, f7⟩, f8⟩ := f
    obtain ⟨fl, hfl⟩ : ∃ fl, fl = encInts f5 := ⟨_, rfl⟩
    rw [encFlight_eq _ hfl] at hfF hchk hme ⊢
    simp only at hfF hchk hme ⊢
    obtain ⟨o1, o2, o3, o4⟩ := o
    conv => cbv
    refine call_intro hA (law15_sane) ?_
    conv => cbv
    split
    · rename_i hc
      cases (nT hA hc)
    conv => cbv
    refine call_intro hA (hfew) ?_
    conv => cbv
    split
    · conv => cbv
      exact hq
    conv => cbv
    refine call_intro hA (hfF) ?_
    conv => cbv
    split
    · conv => cbv
      exact hq
    conv => cbv
    refine call_intro hA (hme) ?_
    conv => cbv
    split
    · conv => cbv
      split
      · conv => cbv
        refine call_intro hA (hchk) ?_
        conv => cbv
        refine Eq.trans ?_ hq
        show PV.bool (A.iEq ck ck) = _
        rw [iEqI hA, decide_eq_true rfl]
      · rename_i hc
        have hf : False := by subst hA; simp [stdOps] at hc
        cases hf
    · rename_i hc
      cases (h0 (neF hA hc))
end Go.Abs
