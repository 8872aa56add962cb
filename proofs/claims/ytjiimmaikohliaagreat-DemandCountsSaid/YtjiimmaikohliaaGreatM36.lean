/-
  Law DemandCounts (the walk).
-/
import Derived.Test.YtjiimmaikohliaaGreatP12
set_option linter.unusedVariables false
set_option linter.unusedSimpArgs false
namespace Go.Abs
open Go.RowKit Go.Proofs

theorem leastR_one (e : Int) (us : List Use) : ∃ n zs, (if e ≠ 0 then PV.tup [.list 0 [], .int .i64 e] else .tup [.list 4 (encUses us), .int .i64 0]) = .tup [.list n zs, .int .i64 e] ∧ (e = 0 → n = 4 ∧ zs = encUses us) ∧ (e ≠ 0 → zs = []) := by
  by_cases h : e = 0
  · subst h; exact ⟨4, encUses us, by simp, fun _ => ⟨rfl, rfl⟩, fun h => absurd rfl h⟩
  · exact ⟨0, [], by rw [if_pos h], fun h0 => absurd h0 h, fun _ => rfl⟩
theorem stRes1_len {t : Tables} {p : Path} : ∃ n zs, stRes1 t p = .list n zs ∧ (stErr1 t p = 0 → zs.length = (staysP t p).length) := by
  unfold stRes1
  split
  · exact ⟨_, _, rfl, fun _ => by simp [encStays]⟩
  · rename_i h
    exact ⟨_, _, rfl, fun h0 => absurd h0 h⟩

set_option maxRecDepth 10000 in
set_option maxHeartbeats 4000000 in
theorem law_DemandCounts (t : Tables) (s : List Change) (cl : Int) (p : Path) (_ : okTables t) (_ : okScheme s) (_ : okI cl) (_ : okPath p) :
    CallsPV Tryz.prog 7 [encTables t, encScheme s, .int .i64 cl, encPath p] (.bool true) := by
  obtain ⟨v, hv⟩ : ∃ v, v = encInts p.Times := ⟨_, rfl⟩
  have hpe := encPath_eq p hv
  have hxs : [encPath p] = encPaths [p] := rfl
  have hf1 := law20_few t s [p] hxs
  generalize few20 t s [p] = b1 at hf1
  have c1 := dm_Uses t s cl [p] hxs (by simp)
  have c2 := dm_Sure t s cl [p] hxs (by simp)
  have hlR : ∀ (pl : Int) (many : Int), pl = placesC t cl → leastR t s cl [p] many = if cntErr t s cl [p] ≠ 0 then .tup [.list 0 [], .int .i64 (cntErr t s cl [p])] else .tup [.list 4 (encUses (leastU [pathCells t s p] many pl)), .int .i64 0] := fun pl many hpl => by rw [hpl]; rfl
  obtain ⟨pl, hpl⟩ : ∃ pl, pl = placesC t cl := ⟨_, rfl⟩
  rw [show ((List.length [p] : Nat) : Int) = 1 from rfl] at c2
  rw [hlR pl 1 hpl] at c1 c2
  clear hlR
  have hday := fun h => day_of (t := t) (s := s) (cl := cl) (p := p) h
  have c3 := occ_Stays t p
  obtain ⟨e, he⟩ : ∃ e, e = cntErr t s cl [p] := ⟨_, rfl⟩
  rw [← he] at c1 c2 hday
  clear he
  obtain ⟨n1, U, r1, o1, o2⟩ := leastR_one e (leastU [pathCells t s p] 1 pl)
  obtain ⟨n3, W, r3, o3⟩ := stRes1_len (t := t) (p := p)
  rw [r1] at c1 c2
  rw [r3] at c3
  obtain ⟨eS, heS⟩ : ∃ e, e = stErr1 t p := ⟨_, rfl⟩
  rw [← heS] at c3 o3 hday
  refine callsPV_by (clo := fun n => n == 9000000) (rows := true) env_ok Tryz.func7 rfl (enters_of Tryz.func7 (by kernel_rfl) rfl) (fun A q P Y hr hA hq => ?_)
  rw [hpe] at hf1 c1 c2 c3 hr ⊢
  obtain ⟨ss, hss⟩ : ∃ ss, ss = encSectors t.Sectors := ⟨_, rfl⟩
  obtain ⟨cs, hcs⟩ : ∃ cs, cs = encConfigs t.Configs := ⟨_, rfl⟩
  obtain ⟨ws, hws⟩ : ∃ ws, ws = encWays t.Ways := ⟨_, rfl⟩
  obtain ⟨ms, hms⟩ : ∃ ms, ms = encIntLs t.Modes := ⟨_, rfl⟩
  obtain ⟨ks, hks⟩ : ∃ ks, ks = encKinds t.Kinds := ⟨_, rfl⟩
  obtain ⟨nv, hnv⟩ : ∃ nv, nv = t.Volumes := ⟨_, rfl⟩
  have htab : encTables t = .agg [.int .i64 nv, .list 5 ss, .list 3 cs, .list 3 ws, .list 1 ms, .list 6 ks] := by rw [encTables_eq t hss hcs hws hms hks, hnv]
  rw [htab] at hf1 c1 c2 c3 ⊢
  obtain ⟨sc, hsc⟩ : ∃ sc, sc = encChanges s := ⟨_, rfl⟩
  rw [encScheme_eq hsc] at hf1 c1 c2 ⊢
  have hvl : v.length = p.Times.length := by rw [hv]; simp [encInts]
  refine seq_stop (fun R hR => ?_)
  conv => cbv
  refine hR _ ?_
  clear hR
  refine seq_stop (fun R hR => ?_)
  conv => cbv
  refine call_intro hA (law20_sane) ?_
  conv => cbv
  split
  · rename_i hc
    cases (nT hA hc)
  conv => cbv
  refine hR _ ?_
  clear hR
  refine seq_stop (fun R hR => ?_)
  conv => cbv
  refine call_intro hA (hf1) ?_
  conv => cbv
  split
  · conv => cbv
    refine ⟨_, Frz.refl _ _, ?_⟩
    conv => cbv
    exact hq
  rename_i hc
  refine hR _ ?_
  clear hR
  refine seq_stop (fun R hR => ?_)
  conv => cbv
  refine call_intro hA (c1) ?_
  conv => cbv
  refine hR _ ?_
  clear hR
  refine seq_stop (fun R hR => ?_)
  conv => cbv
  refine call_intro hA (c2) ?_
  conv => cbv
  refine hR _ ?_
  clear hR
  refine seq_stop (fun R hR => ?_)
  conv => cbv
  refine call_intro hA (c3) ?_
  conv => cbv
  refine hR _ ?_
  clear hR
  refine seq_stop (fun R hR => ?_)
  conv => cbv
  split
  · rename_i hc
    have g := neT hA hc
    have hU := o2 g
    subst hU
    conv => cbv
    split
    rotate_left
    · rename_i hc
      cases (eqF hA hc rfl)
    conv => cbv
    refine ⟨by subst hA; show inI64 (0 + 0); unfold inI64; omega, ?_⟩
    refine ⟨_, Frz.refl _ _, ?_⟩
    conv => cbv
    rw [← hq]
    subst hA
    rfl
  rename_i hc
  have g := neF hA hc
  obtain ⟨y1, z1⟩ := o1 g
  obtain ⟨q1, ⟨hk0, hk1⟩, w, hst, hTl, hw1, hTb, hdp⟩ := hday g
  have hWl : W.length = p.Times.length + 1 := by rw [o3 q1, hst, staysOf_len hTl]
  subst y1 g q1
  clear o1 o2 o3 hday c1 c2 c3 r1 r3
  refine hR _ ?_
  clear hR
  have hvi : A.lLen v = (p.Times.length : Int) := lenI hA hvl
  refine seq_stop (fun R hR => ?_)
  conv => cbv
  split
  · rename_i hc
    have hf : False := by
      have := ltT' hA hvi rfl hc
      omega
    cases hf
  refine hR _ ?_
  clear hR
  have hsub : A.iSub (A.lLen v) 1 = (p.Times.length : Int) - 1 := by rw [subI hA, hvi]
  refine seq_stop (fun R hR => ?_)
  conv => cbv
  refine ⟨inR' hA hsub (by unfold inI64; omega), ?_⟩
  conv => cbv
  refine idx_Int hA hv (n := A.iSub (A.lLen v) 1) (by rw [hsub]; omega) (by rw [hsub]; omega) (fun Z hZ => ?_)
  rw [hsub] at hZ
  have hZl : Z = p.Times.getLastD 0 := by
    have h1 : p.Times ≠ [] := by intro h; rw [h] at hTl; simp at hTl
    have h2 := hZ
    rw [show (((p.Times.length : Int)) - 1).toNat = p.Times.length - 1 by omega, ← List.getLast?_eq_getElem?] at h2
    rw [List.getLastD_eq_getLast?, h2]
    rfl
  conv => cbv
  refine hR _ ?_
  clear hR
  have hsm := same_uses (leastU [pathCells t s p] 1 pl) 4 4 (.inl rfl) (.inl rfl)
  rw [← z1] at hsm
  have hZr := hTb Z (List.mem_of_getElem? hZ)
  have hadd : A.iAdd (A.lLen v) 1 = (p.Times.length : Int) + 1 := by rw [addI hA, hvi]
  have hWi : A.lLen W = (p.Times.length : Int) + 1 := by rw [lenI hA hWl]; omega
  refine seq_stop (fun R hR => ?_)
  conv => cbv
  split
  · rename_i hc
    cases (neT hA hc rfl)
  conv => cbv
  split
  · rename_i hc
    cases (neT hA hc rfl)
  conv => cbv
  refine call_intro hA (hsm) ?_
  conv => cbv
  split
  · rename_i hc
    cases (nT hA hc)
  conv => cbv
  refine ⟨inR' hA hadd (by unfold inI64; omega), ?_⟩
  conv => cbv
  split
  · rename_i hc
    cases (neT' hA hWi hadd hc rfl)
  conv => cbv
  refine hR _ ?_
  clear hR
  refine seq_stop (fun R hR => ?_)
  conv => cbv
  split
  · conv => cbv
    refine ⟨_, Frz.refl _ _, ?_⟩
    conv => cbv
    exact hq
  rename_i hc
  have hZd : Z < 1440 := leF hA hc
  have hD := hdp Z hZl hZd
  have hlo := hD.lo
  refine hR _ ?_
  clear hR
  refine seq_stop (fun R hR => ?_)
  conv => cbv
  refine idx_Int hA hv (n := 0) (by omega) (by omega) (fun F hF => ?_)
  have hFl : p.Times.headD 0 = F := by
    rw [List.headD_eq_head?_getD, List.head?_eq_getElem?]
    have h2 : p.Times[0]? = some F := hF
    rw [h2]; rfl
  rw [hFl] at hD hlo
  conv => cbv
  refine hR _ ?_
  clear hR
  refine seq_stop (fun R hR => ?_)
  conv => cbv
  refine hR _ ?_
  clear hR
  refine seq_stop (fun R hR => ?_)
  conv => cbv
  refine hR _ ?_
  clear hR
  obtain ⟨C, hC⟩ : ∃ C, C = leastC [pathCells t s p] 1 := ⟨_, rfl⟩
  have hCn : C.Nodup := hC ▸ leastC_nodup _ _
  have hCm : ∀ c, c ∈ C ↔ c ∈ cellsOf t s (staysOf w p.Times) := fun c => by
    rw [hC, least_one, ← hst]; rfl
  have hU : U = encUses (C.map fun c => ⟨c, pl⟩) := by rw [z1, hC]; rfl
  have hCl : C.length ≤ 14400 := by
    refine Nat.le_trans (hCn.length_le_of_subset (l₂ := pathCells t s p) fun c h => ?_) (pathCells_len heS.symm)
    have := (hCm c).1 h
    unfold pathCells
    rw [hst]
    exact this
  clear hsm z1 hdp hst
  have hUl : U.length = C.length := by rw [hU, encUses_len, List.length_map]
  have hplk : ∀ kd, t.Kinds[cl.toNat]? = some kd → kd.Places = pl := fun kd h => by rw [hpl]; unfold placesC; rw [h]
  refine seq_stop (fun R hR => ?_)
  conv => cbv
  refine loop_set hA (fun (z : Int × Int × List (PV × PV)) s => { (s.put (some 19) (.val (.int .i64 z.1))).put (some 18) (.val (.int .i64 z.2.1)) with ax := ⟨[.ents z.2.2 none], s.ax.yk⟩ })
    (fun z => 0 ≤ z.1 ∧ z.1 ≤ C.length ∧ z.2.1 = cntA (C.take z.1.toNat) ∧ ∃ es : List (Int × Int), z.2.2 = encM encInt encInt es ∧ NodM es ∧ ∀ m, lookM es m = cntO (cntM (C.take z.1.toNat) m)) (fun z => (C.length - z.1).toNat) (0, 0, []) ?_ ?_ ?_
  · conv => cbv
    exact wk_sl (by repeat (first | refine leL_same ?_ | refine leL_any ?_ | exact leL_nil))
  · exact ⟨Int.le_refl _, by omega, rfl, [], rfl, by simp [NodM], fun m => rfl⟩
  rintro R2 ⟨i, a, m⟩ ⟨hi0, hi1, ha, es, hm, hn, hlk⟩ hR2
  simp only at hi0 hi1 ha hm hlk
  conv => cbv
  split
  rotate_left
  · rename_i hc
    have hge : (C.length : Int) ≤ i := ltF' hA rfl (lenI hA hUl) hc
    rw [List.take_of_length_le (by omega)] at ha hlk
    conv => cbv
    refine hR _ ?_
    clear hR hR2
    have ha2 : a = 2 := by rw [ha, airs_two hD hCn hCm]; rfl
    have hlen : A.eLen m = Z - F := by
      rw [← mins_len hD hCn hCm hn hlk]
      subst hA
      show (m.length : Int) = _
      rw [hm]
      simp [encM]
    refine seq_stop (fun R hR => ?_)
    conv => cbv
    refine loop_set hA (fun (j : Int) s => s.put (some 21) (.val (.int .i64 j))) (fun j => F ≤ j ∧ j ≤ Z) (fun j => (Z - j).toNat) F ?_ ?_ ?_
    · conv => cbv
      exact wk_sl (by repeat (first | refine leL_same ?_ | refine leL_any ?_ | exact leL_nil))
    · exact ⟨Int.le_refl _, by omega⟩
    rintro R2 j ⟨hj0, hj1⟩ hR2
    conv => cbv
    split
    · rename_i hc
      have hj : j < Z := ltT hA hc
      have hjs : A.iAdd j 1 = j + 1 := addI hA _ _
      have hkk : keysOk false [.int] m (.int .i64 j) := by rw [hm]; exact keysOk_Int _ _
      have hv2 : (lookE m (.int .i64 j)).getD (.int .i64 0) = .int .i64 1 := by
        rw [hm, show PV.int .i64 j = encInt j from rfl, lookE_enc keq_Int, hlk, mins_one hD hCn hCm, if_pos ⟨hj0, hj⟩]
        rfl
      conv => cbv
      refine ⟨kOk_intro hA hkk, look_intro hA hv2 rfl ?_⟩
      conv => cbv
      split
      · rename_i hc
        cases (neT hA hc rfl)
      conv => cbv
      refine ⟨inR' hA hjs (by unfold inI64; omega), hR2 (A.iAdd j 1) _ ?_ ?_ ?_⟩
      · conv => cbv
        exact wk_sl (by repeat (first | refine leL_same ?_ | refine leL_any ?_ | exact leL_nil))
      · rw [hjs]; exact ⟨by omega, by omega⟩
      · rw [hjs]; omega
    rename_i hc
    conv => cbv
    refine hR _ ?_
    clear hR hR2
    have hsb : A.iSub Z F = Z - F := subI hA _ _
    conv => cbv
    split
    rotate_left
    · rename_i hc
      cases (eqF hA hc ha2)
    conv => cbv
    refine ⟨inR' hA hsb (by unfold inI64; omega), ?_⟩
    refine ⟨_, Frz.refl _ _, ?_⟩
    conv => cbv
    rw [← hq]
    exact congrArg PV.bool (show A.iEq (A.eLen m) (A.iSub Z F) = true by rw [hlen, hsb]; subst hA; simp [stdOps])
  rename_i hc
  have hi : i < C.length := ltT' hA rfl (lenI hA hUl) hc
  have his : A.iAdd i 1 = i + 1 := addI hA _ _
  have hir : A.inR (A.iAdd i 1) := inR' hA his (by unfold inI64; omega)
  obtain ⟨c, hc0⟩ : ∃ c, C[i.toNat]? = some c := ⟨C[i.toNat]'(by omega), List.getElem?_eq_getElem _⟩
  have ht := take_snoc' hi0 hc0
  have hux : (C.map fun c => (⟨c, pl⟩ : Use))[i.toNat]? = some ⟨c, pl⟩ := by rw [List.getElem?_map, hc0]; rfl
  have hcA := cntA_snoc (C.take i.toNat) c
  have hcM := fun m => cntM_snoc (C.take i.toNat) c m
  rw [← ht] at hcA hcM
  have hcI := (hCm c).1 (List.mem_of_getElem? hc0)
  have hac := air_cells hD c
  obtain ⟨k1, k2, k3⟩ := c
  conv => cbv
  refine idx_Use hA hU hi0 (by rw [List.length_map]; exact hi) (fun u hu => ?_)
  rw [hux] at hu
  cases hu
  conv => cbv
  refine ⟨draw_intro hA (by kernel_rfl), ?_⟩
  refine idx_Use hA hU hi0 (by rw [List.length_map]; exact hi) (fun u hu => ?_)
  rw [hux] at hu
  cases hu
  conv => cbv
  refine idx_Kind hA hks hk0 hk1 (fun kd kv hkd hkv => ?_)
  have hplk2 := hplk kd hkd
  obtain ⟨kd1, kd2, kd3, kd4, kd5, kd6⟩ := kd
  simp only at hplk2
  subst hplk2
  conv => cbv
  split
  · rename_i hc
    cases (neT hA hc rfl)
  conv => cbv
  cases k1 with
  | true =>
    have haa : A.iAdd a 1 = a + 1 := addI hA _ _
    have hab : a = (cntA (C.take i.toNat) : Int) := ha
    have hal : cntA (C.take i.toNat) ≤ C.length := by
      unfold cntA
      exact Nat.le_trans (List.length_filter_le _ _) (by rw [List.length_take]; omega)
    conv => cbv
    refine ⟨inR' hA haa (by unfold inI64; omega), ?_⟩
    have hk3 : k3 = F ∨ k3 = Z := by
      rcases hac.1 ⟨hcI, rfl⟩ with h | h
      · exact .inl (congrArg Cell.Minute h)
      · exact .inr (congrArg Cell.Minute h)
    have hinv : 0 ≤ A.iAdd i 1 ∧ A.iAdd i 1 ≤ C.length ∧ A.iAdd a 1 = cntA (C.take (A.iAdd i 1).toNat) ∧ ∃ es : List (Int × Int), m = encM encInt encInt es ∧ NodM es ∧ ∀ m, lookM es m = cntO (cntM (C.take (A.iAdd i 1).toNat) m) := by
      rw [his]
      refine ⟨by omega, by omega, by rw [haa, hcA, hab]; rfl, es, hm, hn, fun m => ?_⟩
      rw [hcM, hlk]
      simp
    conv => cbv
    split
    · rename_i hc
      have g := neT hA hc
      have hk4 : k3 = Z := by omega
      conv => cbv
      split
      · rename_i hc
        cases (neT hA hc hk4)
      conv => cbv
      refine ⟨hir, hR2 (A.iAdd i 1, A.iAdd a 1, m) _ ?_ hinv ?_⟩
      · (conv => cbv)
        exact wk_round (bx := [_, _, _]) (bx' := [_]) (mp := [_]) (mp' := []) (by repeat (first | refine leL_same ?_ | refine leL_any ?_ | exact leL_nil)) (by simp) (.inl rfl) rfl rfl
      · rw [his]; simp only; omega
    · conv => cbv
      refine ⟨hir, hR2 (A.iAdd i 1, A.iAdd a 1, m) _ ?_ hinv ?_⟩
      · (conv => cbv)
        exact wk_round (bx := [_, _, _]) (bx' := [_]) (mp := [_]) (mp' := []) (by repeat (first | refine leL_same ?_ | refine leL_any ?_ | exact leL_nil)) (by simp) (.inl rfl) rfl rfl
      · rw [his]; simp only; omega
  | false =>
    obtain ⟨o, ho⟩ : ∃ o, o = (lookM es k3).getD 0 := ⟨_, rfl⟩
    have hoc : o = (cntM (C.take i.toNat) k3 : Nat) := by
      rw [ho, hlk]
      unfold cntO
      split
      · rename_i h; rw [h]; rfl
      · rfl
    have hol : cntM (C.take i.toNat) k3 ≤ C.length := by
      unfold cntM
      exact Nat.le_trans (List.length_filter_le _ _) (by rw [List.length_take]; omega)
    have hos : A.iAdd o 1 = o + 1 := addI hA _ _
    have hkk : keysOk false [.int] m (.int .i64 k3) := by rw [hm]; exact keysOk_Int _ _
    have hv2 : (lookE m (.int .i64 k3)).getD (.int .i64 0) = .int .i64 o := by
      rw [hm, show PV.int .i64 k3 = encInt k3 from rfl, lookE_enc keq_Int, ho]
      cases lookM es k3 <;> rfl
    have hinv : 0 ≤ A.iAdd i 1 ∧ A.iAdd i 1 ≤ C.length ∧ a = cntA (C.take (A.iAdd i 1).toNat) ∧ ∃ es : List (Int × Int), A.ePut m (.int .i64 k3) (.int .i64 (A.iAdd o 1)) = encM encInt encInt es ∧ NodM es ∧ ∀ m, lookM es m = cntO (cntM (C.take (A.iAdd i 1).toNat) m) := by
      rw [his]
      refine ⟨by omega, by omega, by rw [hcA, ha]; rfl, putM es k3 (o + 1), ?_, hn.put _ _, fun d => ?_⟩
      · rw [hos, hm]
        subst hA
        exact putE_enc keq_Int (f := encInt) _ _ _
      · rw [lookM_put, hcM]
        by_cases e : d = k3
        · subst e
          rw [if_pos rfl, if_pos ⟨rfl, rfl⟩, hoc]
          unfold cntO
          rw [if_neg (by omega)]
          rfl
        · rw [if_neg e, if_neg (fun h => e h.2.symm), hlk, Nat.add_zero]
    conv => cbv
    refine ⟨kOk_intro hA hkk, look_intro hA hv2 rfl ?_⟩
    conv => cbv
    refine ⟨inR' hA hos (by unfold inI64; omega), ?_⟩
    conv => cbv
    refine ⟨⟨kOk_intro hA hkk, trivial⟩, hir, hR2 (A.iAdd i 1, a, A.ePut m (.int .i64 k3) (.int .i64 (A.iAdd o 1))) _ ?_ hinv ?_⟩
    · (conv => cbv)
      exact wk_round (bx := [_, _, _]) (bx' := [_]) (mp := [_]) (mp' := []) (by repeat (first | refine leL_same ?_ | refine leL_any ?_ | exact leL_nil)) (by simp) (.inl rfl) rfl rfl
    · rw [his]; simp only; omega
end Go.Abs
