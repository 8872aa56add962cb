/-
  Functions of the reference's chapter 15: Check, Measures, Is, Compare, Delay, Decided.
-/
import Derived.Test.YtbljnbpddboohaaGreatR14
import Derived.Test.YtbljnbpddboohaaGreatF21
set_option linter.unusedVariables false
set_option linter.unusedSimpArgs false
namespace Go.Abs
open Go.RowKit Go.Proofs

theorem ref15_Check (t : Tables) (f : Flight) : CallsPV Tryz.prog 9 [encTables t, encFlight f] (.int .i64 (checkF t f)) := by
  refine callsPV_by (clo := fun _ => false) (rows := false) env_ok Tryz.func9 rfl (enters_of Tryz.func9 (by kernel_rfl) rfl) (fun A q P Y hr hA hq => ?_)
  have h1 := ref14_Check t
  have h2 := ref15_Valid t f
  have hC : checkF t f = if airOk t then if flightB t f then 0 else 150 else 140 := rfl
  rw [hC] at hq
  generalize airOk t = b1 at h1 hq
  generalize flightB t f = b2 at h2 hq
  clear hC
  obtain ⟨ss, hss⟩ : ∃ ss, ss = encSectors t.Sectors := ⟨_, rfl⟩
  obtain ⟨cs, hcs⟩ : ∃ cs, cs = encConfigs t.Configs := ⟨_, rfl⟩
  obtain ⟨ws, hws⟩ : ∃ ws, ws = encWays t.Ways := ⟨_, rfl⟩
  obtain ⟨ms, hms⟩ : ∃ ms, ms = encIntLs t.Modes := ⟨_, rfl⟩
  obtain ⟨ks, hks⟩ : ∃ ks, ks = encKinds t.Kinds := ⟨_, rfl⟩
  obtain ⟨nv, hnv⟩ : ∃ nv, nv = t.Volumes := ⟨_, rfl⟩
  have htab : encTables t = .agg [.int .i64 nv, .list 5 ss, .list 3 cs, .list 3 ws, .list 1 ms, .list 6 ks] := by rw [encTables_eq t hss hcs hws hms hks, hnv]
  rw [htab] at h1 h2 ⊢
  obtain ⟨f1, f2, f3, f4, f5, ⟨f6, f7⟩, f8⟩ := f
  obtain ⟨fl, hfl⟩ : ∃ fl, fl = encInts f5 := ⟨_, rfl⟩
  rw [encFlight_eq _ hfl] at h2 ⊢
  simp only at h2 ⊢
  conv => cbv
  cases b1 with
  | false =>
    refine call_intro hA (h1) ?_
    conv => cbv
    split
    rotate_left
    · rename_i hc
      cases ((show False by have := neF hA hc; omega))
    conv => cbv
    rw [← hq]; rfl
  | true =>
    refine call_intro hA (h1) ?_
    conv => cbv
    split
    · rename_i hc
      cases (neT hA hc rfl)
    conv => cbv
    cases b2 with
    | false =>
      refine call_intro hA (h2) ?_
      conv => cbv
      split
      rotate_left
      · rename_i hc
        cases (nF hA hc)
      conv => cbv
      rw [← hq]; rfl
    | true =>
      refine call_intro hA (h2) ?_
      conv => cbv
      split
      · rename_i hc
        cases (nT hA hc)
      conv => cbv
      rw [← hq]; rfl

theorem measO_at {L : Int} {n j w m : Nat} {c : Bool} (hj : (10 * j : Nat) ≤ L) (hw : w < n) (hm : m < 3) : (measO L n c)[j * (3 * n) + (3 * w + m)]? = some ⟨((10 * j : Nat) : Int), (w : Int), ((5 * m : Nat) : Int), false⟩ := by
  have hJ : j < (L / 10 + 1).toNat := by omega
  have hlt : j * (3 * n) + (3 * w + m) < (L / 10 + 1).toNat * (3 * n) := by
    have h1 : (j + 1) * (3 * n) ≤ (L / 10 + 1).toNat * (3 * n) := Nat.mul_le_mul_right _ hJ
    rw [Nat.add_mul, Nat.one_mul] at h1
    omega
  unfold measO
  rw [List.getElem?_append_left (by simpa using hlt), List.getElem?_map, List.getElem?_range hlt]
  simp only [Option.map_some, optAt_eq hw hm]

set_option maxHeartbeats 2000000 in
theorem ref15_Measures (t : Tables) (f : Flight) : CallsPV Tryz.prog 13 [encTables t, encFlight f] (.tup [.list 4 (encOpts (measuresF t f)), .int .i64 (checkF t f)]) := by
  have hchk := ref15_Check t f
  obtain ⟨ck, hck⟩ : ∃ ck, ck = checkF t f := ⟨_, rfl⟩
  by_cases h0 : ck = 0
  · obtain ⟨k, hk, hc0, hL0, hL1, _, _, _, hw1, hw4⟩ := checkF_kind (hck ▸ h0)
    have hcl := (List.getElem?_eq_some_iff.1 hk).1
    have hml : measuresF t f = measO k.Longest f.Ways.length f.Cancel := by
      rw [measuresF, if_pos (hck ▸ h0), measL, hk]
    rw [hml, ← hck, h0]
    rw [← hck, h0] at hchk
    have hlen : (measO k.Longest f.Ways.length f.Cancel).length ≤ 1000 := by
      rw [measO_len]
      have h1 : (k.Longest / 10 + 1).toNat ≤ 7 := by omega
      have h2 : (k.Longest / 10 + 1).toNat * (3 * f.Ways.length) ≤ 7 * (3 * 4) := Nat.mul_le_mul h1 (by omega)
      split <;> omega
    have hat := fun (j w m : Nat) (h1 : (10 * j : Nat) ≤ k.Longest) (h2 : w < f.Ways.length) (h3 : m < 3) => measO_at (c := f.Cancel) h1 h2 h3
    have hml2 := measO_len k.Longest f.Ways.length f.Cancel
    have hlast : f.Cancel = true → (measO k.Longest f.Ways.length f.Cancel)[(k.Longest / 10 + 1).toNat * (3 * f.Ways.length)]? = some ⟨0, 0, 0, true⟩ := fun h => by
      rw [h]; unfold measO
      rw [List.getElem?_append_right (by simp)]; simp
    refine callsPV_by (clo := fun _ => false) (rows := false) env_ok Tryz.func13 rfl (enters_of Tryz.func13 (by kernel_rfl) rfl) (fun A q P Y hr hA hq => ?_)
    obtain ⟨ss, hss⟩ : ∃ ss, ss = encSectors t.Sectors := ⟨_, rfl⟩
    obtain ⟨cs, hcs⟩ : ∃ cs, cs = encConfigs t.Configs := ⟨_, rfl⟩
    obtain ⟨ws, hws⟩ : ∃ ws, ws = encWays t.Ways := ⟨_, rfl⟩
    obtain ⟨ms, hms⟩ : ∃ ms, ms = encIntLs t.Modes := ⟨_, rfl⟩
    obtain ⟨ks, hks⟩ : ∃ ks, ks = encKinds t.Kinds := ⟨_, rfl⟩
    obtain ⟨nv, hnv⟩ : ∃ nv, nv = t.Volumes := ⟨_, rfl⟩
    have htab : encTables t = .agg [.int .i64 nv, .list 5 ss, .list 3 cs, .list 3 ws, .list 1 ms, .list 6 ks] := by rw [encTables_eq t hss hcs hws hms hks, hnv]
    rw [htab] at hchk ⊢
    generalize measO k.Longest f.Ways.length f.Cancel = M at hq hlen hat hml2 hlast
    obtain ⟨f1, f2, f3, f4, f5, ⟨f6, f7⟩, f8⟩ := f
    obtain ⟨fl, hfl⟩ : ∃ fl, fl = encInts f5 := ⟨_, rfl⟩
    have hfl' : fl.length = f5.length := by rw [hfl]; simp [encInts]
    rw [encFlight_eq _ hfl] at hchk ⊢
    simp only at hchk hk hcl hc0 hw1 hw4 hat hml2 hlast ⊢
    obtain ⟨k1, k2, k3, k4, L, k6⟩ := k
    simp only at hL0 hL1 hat hml2 hlast
    obtain ⟨n, hn⟩ : ∃ n, n = f5.length := ⟨_, rfl⟩
    rw [← hn] at hw1 hw4 hat hml2 hlast hfl'
    have hsnoc : ∀ (kk : Nat) (o : Opt), M[kk]? = some o → A.lApp (encOpts (M.take kk)) [encOpt o] = encOpts (M.take (kk + 1)) := fun kk o h => by
      rw [List.take_add_one, h]
      subst hA
      show encOpts _ ++ _ = _
      simp [encOpts]
    have hroom : ∀ (xs : List PV), xs.length ≤ 2000 → A.room (A.nLen xs) 32 := fun xs h => by
      subst hA
      show xs.length * (32 + 1) ≤ 140737488355328
      omega
    have htk : ∀ xs, A.tkEq (A.nLen xs) (A.nLen xs) := fun xs => by subst hA; rfl
    have hel : ∀ kk, (encOpts (M.take kk)).length ≤ 1000 := fun kk => by simp [encOpts]; omega
    conv => cbv
    refine call_intro hA (hchk) ?_
    conv => cbv
    split
    · rename_i hc
      cases (neT hA hc rfl)
    conv => cbv
    refine loop_set hA (fun (z : Int × List PV) s => { (s.put (some 8) (.val (.int .i64 z.1))).put (some 7) (.own 0 4 z.2) with tk := [(A.nLen z.2, 42)] }) (fun z => ∃ j : Nat, z.1 = (10 * j : Nat) ∧ (10 * j : Nat) ≤ L + 10 ∧ z.2 = encOpts (M.take (j * (3 * n)))) (fun z => (L + 10 - z.1).toNat) (0, []) ?_ ?_ ?_
    · conv => cbv
      exact wk_own 7 4 4 _ _ rfl (.inl rfl) (by repeat (first | refine leL_same ?_ | refine leL_any ?_ | exact leL_nil)) (by subst hA; rfl)
    · exact ⟨0, rfl, by omega, by simp [encOpts]⟩
    rintro R2 ⟨d, X⟩ ⟨j, hd, hj, hX⟩ hR2
    simp only at hd hX
    conv => cbv
    refine idx_Kind hA hks hc0 (by omega) (fun k' v hk' hv => ?_)
    obtain rfl := Option.some.inj (hk.symm.trans hk')
    conv => cbv
    split
    · rename_i hc
      have hdL := leT hA hc
      have hds : A.iAdd d 10 = d + 10 := addI hA _ _
      have hjL : ((10 * j : Nat) : Int) ≤ L := by omega
      conv => cbv
      refine loop_set hA (fun (z : Int × List PV) s => { (s.put (some 9) (.val (.int .i64 z.1))).put (some 7) (.own 0 4 z.2) with tk := [(A.nLen z.2, 42)] }) (fun z => ∃ w : Nat, z.1 = (w : Int) ∧ w ≤ n ∧ z.2 = encOpts (M.take (j * (3 * n) + 3 * w))) (fun z => (n - z.1).toNat) (0, X) ?_ ?_ ?_
      · conv => cbv
        exact wk_sl (by repeat (first | refine leL_same ?_ | refine leL_any ?_ | refine leL_own ?_ | refine leL_lit ?_ | exact leL_nil))
      · exact ⟨0, rfl, by omega, hX⟩
      rintro R3 ⟨wi, Y1⟩ ⟨w, hwi, hwn, hY1⟩ hR3
      simp only at hwi hY1
      conv => cbv
      split
      · rename_i hc
        have hw : w < n := by have := ltT' hA rfl (lenI hA hfl') hc; omega
        have hws' : A.iAdd wi 1 = wi + 1 := addI hA _ _
        have hwr : A.inR (A.iAdd wi 1) := inR' hA hws' (by unfold inI64; omega)
        conv => cbv
        refine loop_set hA (fun (z : Int × List PV) s => { (s.put (some 10) (.val (.int .i64 z.1))).put (some 7) (.own 0 4 z.2) with tk := [(A.nLen z.2, 42)] }) (fun z => ∃ m : Nat, z.1 = ((5 * m : Nat) : Int) ∧ m ≤ 3 ∧ z.2 = encOpts (M.take (j * (3 * n) + (3 * w + m)))) (fun z => (15 - z.1).toNat) (0, Y1) ?_ ?_ ?_
        · conv => cbv
          exact wk_sl (by repeat (first | refine leL_same ?_ | refine leL_any ?_ | refine leL_own ?_ | refine leL_lit ?_ | exact leL_nil))
        · exact ⟨0, rfl, by omega, hY1⟩
        rintro R4 ⟨h, Z⟩ ⟨m, hh, hm, hZ⟩ hR4
        simp only at hh hZ
        conv => cbv
        split
        · rename_i hc
          have hm3 : m < 3 := by have := leT hA hc; omega
          have hhs : A.iAdd h 5 = h + 5 := addI hA _ _
          have hhr : A.inR (A.iAdd h 5) := inR' hA hhs (by unfold inI64; omega)
          have hnext : A.lApp Z [.agg [.int .i64 d, .int .i64 wi, .int .i64 h, .bool false]] = encOpts (M.take (j * (3 * n) + (3 * w + (m + 1)))) := by
            have := hsnoc _ _ (hat j w m hjL hw hm3)
            rw [hZ, hd, hwi, hh]
            exact this
          have hrm : A.room (A.nLen (A.lApp Z [.agg [.int .i64 d, .int .i64 wi, .int .i64 h, .bool false]])) 32 := hroom _ (by rw [hnext]; have := hel (j * (3 * n) + (3 * w + (m + 1))); omega)
          conv => cbv
          refine ⟨⟨htk Z, hrm⟩, hhr, hR4 (A.iAdd h 5, A.lApp Z [.agg [.int .i64 d, .int .i64 wi, .int .i64 h, .bool false]]) _ ?_ ?_ ?_⟩
          · conv => cbv
            exact wk_sl (by repeat (first | refine leL_same ?_ | refine leL_any ?_ | exact leL_nil))
          · exact ⟨m + 1, by show A.iAdd h 5 = _; rw [hhs]; omega, by omega, hnext⟩
          · show (15 - A.iAdd h 5).toNat < (15 - h).toNat
            rw [hhs]; omega
        · rename_i hc
          have hm3 : m = 3 := by have := leF hA hc; omega
          conv => cbv
          refine ⟨hwr, hR3 (A.iAdd wi 1, Z) _ ?_ ?_ ?_⟩
          · conv => cbv
            exact wk_sl (by repeat (first | refine leL_same ?_ | refine leL_any ?_ | refine leL_own ?_ | refine leL_lit ?_ | exact leL_nil))
          · exact ⟨w + 1, by show A.iAdd wi 1 = _; rw [hws']; omega, by omega, by show Z = _; rw [hZ, hm3]; rfl⟩
          · show ((n : Int) - A.iAdd wi 1).toNat < ((n : Int) - wi).toNat
            rw [hws']; omega
      · rename_i hc
        have hw : w = n := by have := ltF' hA rfl (lenI hA hfl') hc; omega
        conv => cbv
        refine ⟨inR' hA hds (by unfold inI64; omega), hR2 (A.iAdd d 10, Y1) _ ?_ ?_ ?_⟩
        · conv => cbv
          exact wk_sl (by repeat (first | refine leL_same ?_ | refine leL_any ?_ | refine leL_own ?_ | refine leL_lit ?_ | exact leL_nil))
        · refine ⟨j + 1, by show A.iAdd d 10 = _; rw [hds]; omega, by omega, ?_⟩
          show Y1 = _
          rw [hY1, hw, Nat.add_mul, Nat.one_mul]
        · show (L + 10 - A.iAdd d 10).toNat < (L + 10 - d).toNat
          rw [hds]; omega
    · rename_i hc
      have hdL := leF hA hc
      have hj2 : j = (L / 10 + 1).toNat := by omega
      rw [hj2] at hX
      conv => cbv
      cases f8 with
      | false =>
        have e : X = encOpts M := by rw [hX, List.take_of_length_le (by rw [hml2]; simp)]
        conv => cbv
        rw [← hq, e]
      | true =>
        have e : A.lApp X [.agg [.int .i64 0, .int .i64 0, .int .i64 0, .bool true]] = encOpts M := by
          have := hsnoc _ _ (hlast rfl)
          rw [hX]
          refine this.trans ?_
          rw [List.take_of_length_le (by rw [hml2]; simp)]
        have hrm : A.room (A.nLen (A.lApp X [.agg [.int .i64 0, .int .i64 0, .int .i64 0, .bool true]])) 32 := hroom _ (by rw [e]; simp [encOpts]; omega)
        conv => cbv
        refine ⟨⟨htk X, hrm⟩, ?_⟩
        rw [← hq, ← e]
  · have hml : measuresF t f = [] := by rw [measuresF, if_neg (hck ▸ h0)]
    rw [hml, ← hck]
    rw [← hck] at hchk
    refine CallsPV.le (p := .tup [.list 0 [], .int .i64 ck]) (args' := [encTables t, encFlight f]) ?_ (.cons (.refl _) (.cons (.refl _) .nil)) (.tup _ _ rfl fun i x y hx hy => ?_)
    · refine callsPV_by (clo := fun _ => false) (rows := false) env_ok Tryz.func13 rfl (enters_of Tryz.func13 (by kernel_rfl) rfl) (fun A q P Y hr hA hq => ?_)
      obtain ⟨ss, hss⟩ : ∃ ss, ss = encSectors t.Sectors := ⟨_, rfl⟩
      obtain ⟨cs, hcs⟩ : ∃ cs, cs = encConfigs t.Configs := ⟨_, rfl⟩
      obtain ⟨ws, hws⟩ : ∃ ws, ws = encWays t.Ways := ⟨_, rfl⟩
      obtain ⟨ms, hms⟩ : ∃ ms, ms = encIntLs t.Modes := ⟨_, rfl⟩
      obtain ⟨ks, hks⟩ : ∃ ks, ks = encKinds t.Kinds := ⟨_, rfl⟩
      obtain ⟨nv, hnv⟩ : ∃ nv, nv = t.Volumes := ⟨_, rfl⟩
      have htab : encTables t = .agg [.int .i64 nv, .list 5 ss, .list 3 cs, .list 3 ws, .list 1 ms, .list 6 ks] := by rw [encTables_eq t hss hcs hws hms hks, hnv]
      rw [htab] at hchk ⊢
      obtain ⟨f1, f2, f3, f4, f5, ⟨f6, f7⟩, f8⟩ := f
      obtain ⟨fl, hfl⟩ : ∃ fl, fl = encInts f5 := ⟨_, rfl⟩
      rw [encFlight_eq _ hfl] at hchk ⊢
      simp only at hchk ⊢
      conv => cbv
      refine call_intro hA (hchk) ?_
      conv => cbv
      split
      rotate_left
      · rename_i hc
        cases ((h0 (neF hA hc)))
      conv => cbv
      exact hq
    · match i, hx, hy with
      | 0, hx, hy => simp at hx hy; subst hx hy; exact .nil _ _
      | 1, hx, hy => simp at hx hy; subst hx hy; exact .refl _
      | i + 2, hx, hy => simp at hx
end Go.Abs
