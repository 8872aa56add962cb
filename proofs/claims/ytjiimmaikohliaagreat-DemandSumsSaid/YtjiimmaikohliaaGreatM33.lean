/-
  Law DemandSums.
-/
import Derived.Test.YtjiimmaikohliaaGreatP11
set_option linter.unusedVariables false
set_option linter.unusedSimpArgs false
namespace Go.Abs
open Go.RowKit Go.Proofs

theorem totP_le {us : List Use} (h : ∀ u ∈ us, useOk u = true) : 0 ≤ totP us ∧ totP us ≤ 4096 * (us.length : Int) := by
  induction us with
  | nil => simp [totP]
  | cons u us ih =>
    have h1 := ih fun v hv => h v (by simp [hv])
    have h2 := h u (by simp)
    unfold useOk at h2
    simp only [Bool.and_eq_true, decide_eq_true_eq] at h2
    rw [totP_cons, List.length_cons]
    omega
theorem totP_take {us : List Use} (h : ∀ u ∈ us, 0 ≤ u.Places) (k : Nat) : 0 ≤ totP (us.take k) ∧ totP (us.take k) ≤ totP us := by
  have hp : ∀ l : List Use, (∀ u ∈ l, 0 ≤ u.Places) → 0 ≤ totP l := fun l hl => by
    induction l with
    | nil => simp [totP]
    | cons u l ih =>
      rw [totP_cons]
      have := hl u (by simp)
      have := ih fun v hv => hl v (by simp [hv])
      omega
  have h1 := hp (us.take k) fun u hu => h u (List.mem_of_mem_take hu)
  have h2 := hp (us.drop k) fun u hu => h u (List.mem_of_mem_drop hu)
  have h3 : totP us = totP (us.take k) + totP (us.drop k) := by rw [← totP_append, List.take_append_drop]
  omega
theorem addO_pos {F : List Use} (h : ∀ u ∈ F, useOk u = true) : ∀ u ∈ addO F, 1 ≤ u.Places := fun u hu => by
  rw [addO_eq] at hu
  obtain ⟨c, hc, rfl⟩ := List.mem_map.1 hu
  rw [(sortC_perm _).mem_iff] at hc
  exact sumC_pos h ((keys_sumU F c).1 hc)
theorem addR_ok {ls : List (List Use)} (h : ls.any badB = false) : addR ls = .tup [.list 4 (encUses (addO ls.flatten)), .int .i64 0] := by
  unfold addR
  rw [if_neg (by simp [h])]
  rfl
theorem addR_bad {ls : List (List Use)} (h : ls.any badB = true) : addR ls = .tup [.list 0 [], .int .i64 200] := by
  unfold addR
  rw [if_pos h]
theorem any_sub {α : Type} {f : α → Bool} {l m : List α} (h : l.any f = false) (hs : ∀ x ∈ m, x ∈ l) : m.any f = false := by
  rw [List.any_eq_false] at *
  exact fun x hx => h x (hs x hx)
/-- Is what is to come of the last sum right? -/
noncomputable def lastR (c d : List Use) : PV := addR [c, d]

set_option maxRecDepth 10000 in
set_option maxHeartbeats 4000000 in
theorem law_DemandSums0 (ls : List (List Use)) (at' : Int) (hat : 0 ≤ at' ∧ at' ≤ 255) (hb : ∀ l ∈ ls, l.length ≤ 8796093022208) :
    CallsPV Tryz.prog 8 [.list 1 (encUseLs ls), .int .u8 at'] (.bool true) := by
  obtain ⟨xs, hxs⟩ : ∃ xs, xs = encUseLs ls := ⟨_, rfl⟩
  rw [← hxs]
  have hf := ref20_Few ls hb hxs
  have hl := few20U_len (ls := ls)
  generalize few20U ls = fb at hf hl
  refine callsPV_by (clo := fun _ => false) (rows := false) env_ok Tryz.func8 rfl (enters_of Tryz.func8 (by kernel_rfl) rfl) (fun A q P Y hr hA hq => ?_)
  have hxl : xs.length = ls.length := by rw [hxs]; simp [encUseLs]
  have hadd := fun (L : List (List Use)) (zs : List PV) (hz : zs = encUseLs L) (h : L.flatten.length ≤ 1000000) => dm_Add L hz h
  refine seq_stop (fun R hR => ?_)
  conv => cbv
  refine hR _ ?_
  clear hR
  refine seq_stop (fun R hR => ?_)
  conv => cbv
  refine call_intro hA (law20_sane) ?_
  conv => cbv
  split
  · rename_i hc
    cases (nT hA hc)
  conv => cbv
  refine hR _ ?_
  clear hR
  refine seq_stop (fun R hR => ?_)
  conv => cbv
  refine call_intro hA (hf) ?_
  conv => cbv
  split
  · conv => cbv
    exact hq
  rename_i hc
  obtain ⟨hl1, hl2⟩ := hl (notF hA hc)
  conv => cbv
  refine hR _ ?_
  clear hR hf
  refine seq_stop (fun R hR => ?_)
  have h1 := hadd ls xs hxs (by omega)
  cases hba : ls.any badB with
  | true =>
    rw [addR_bad hba] at h1
    conv => cbv
    refine call_intro hA (h1) ?_
    conv => cbv
    refine hR _ ?_
    clear hR
    refine seq_stop (fun R hR => ?_)
    conv => cbv
    split
    · conv => cbv
      rw [← hq]
      subst hA
      rfl
    · rename_i hc
      cases (absurd (neF hA hc) (by decide) : False)
  | false => ?_
  rw [addR_ok hba] at h1
  have hok := useOk_of hba
  have hFl : ls.flatten.length ≤ 300 := hl2
  obtain ⟨U, hU⟩ : ∃ U, U = encUses (addO ls.flatten) := ⟨_, rfl⟩
  rw [← hU] at h1
  conv => cbv
  refine call_intro hA (h1) ?_
  conv => cbv
  refine hR _ ?_
  clear hR
  refine seq_stop (fun R hR => ?_)
  conv => cbv
  split
  · rename_i hc
    cases (neT hA hc rfl)
  conv => cbv
  refine hR _ ?_
  clear hR
  refine seq_stop (fun R hR => ?_)
  conv => cbv
  refine hR _ ?_
  clear hR
  refine seq_stop (fun R hR => ?_)
  conv => cbv
  split
  · rename_i hc
    have hlp : 0 < (ls.length : Int) := ltT' hA rfl (lenI hA hxl) hc
    have hwr : A.wrap .i64 at' = at' := by subst hA; exact wrap_in (by unfold inI64; omega)
    have hmod : A.iMod (A.wrap .i64 at') (A.lLen xs) = at' % (ls.length : Int) := by
      rw [show A.lLen xs = (ls.length : Int) from lenI hA hxl, hwr]
      subst hA
      show at'.tmod _ = _
      exact Int.tmod_eq_emod_of_nonneg hat.1
    have hk0 : 0 ≤ A.iMod (A.wrap .i64 at') (A.lLen xs) ∧ A.iMod (A.wrap .i64 at') (A.lLen xs) ≤ ls.length := by
      rw [hmod]
      exact ⟨Int.emod_nonneg _ (by omega), Int.le_of_lt (Int.emod_lt_of_pos _ hlp)⟩
    have hnz : A.nz (A.lLen xs) := by
      rw [show A.lLen xs = (ls.length : Int) from lenI hA hxl]
      subst hA
      show (ls.length : Int) ≠ 0
      omega
    conv => cbv
    refine ⟨hnz, ?_⟩
    clear hmod hnz
    refine hR _ ?_
    clear hR
    obtain ⟨kk, hkk⟩ : ∃ kk, kk = A.iMod (A.wrap .i64 at') (A.lLen xs) := ⟨_, rfl⟩
    rw [← hkk] at hk0
    obtain ⟨kn, hkn⟩ : ∃ kn : Nat, kn = (kk : Int).toNat := ⟨_, rfl⟩
    have hkl : kn ≤ ls.length := by omega
    have hd1 : A.lSub xs kk (A.lLen xs) = encUseLs (ls.drop kn) := by
      subst hA
      show (xs.take (xs.length : Int).toNat).drop (kk : Int).toNat = _
      rw [show (xs.length : Int).toNat = xs.length from rfl, List.take_length, hxs, ← hkn]
      unfold encUseLs
      rw [List.map_drop]
    have hd2 : A.lSub xs 0 kk = encUseLs (ls.take kn) := by
      subst hA
      show (xs.take (kk : Int).toNat).drop (0 : Int).toNat = _
      rw [hxs]
      unfold encUseLs
      rw [hkn, List.map_take]
      rfl
    have hd3 : A.lApp (A.lApp [] (A.lSub xs kk (A.lLen xs))) (A.lSub xs 0 kk) = encUseLs (ls.drop kn ++ ls.take kn) := by
      rw [hd1, hd2]
      subst hA
      show ([] ++ _) ++ _ = _
      unfold encUseLs
      rw [List.map_append]; rfl
    have hsl1 : A.sl kk (A.lLen xs) (A.lLen xs) := by subst hA; show 0 ≤ (kk : Int) ∧ kk ≤ (xs.length : Int) ∧ (xs.length : Int) ≤ xs.length; omega
    have hsl2 : A.sl 0 kk (A.lLen xs) := by subst hA; show (0 : Int) ≤ 0 ∧ 0 ≤ (kk : Int) ∧ kk ≤ (xs.length : Int); omega
    have hn1 : (A.lApp [] (A.lSub xs kk (A.lLen xs))).length ≤ 12 := by
      rw [hd1]; subst hA; show ([] ++ _ : List PV).length ≤ _; simp [encUseLs]; omega
    have hn2 : (A.lApp (A.lApp [] (A.lSub xs kk (A.lLen xs))) (A.lSub xs 0 kk)).length ≤ 24 := by
      rw [hd3]; simp [encUseLs]; omega
    have hroom : ∀ (l : List PV) (n : Nat), l.length ≤ 24 → n ≤ 1000 → A.room (A.nLen l) n := fun l n h h2 => by
      subst hA
      show l.length * (n + 1) ≤ _
      exact Nat.le_trans (Nat.mul_le_mul h (Nat.succ_le_succ h2)) (by decide)
    have htk : ∀ l : List PV, A.tkEq (A.nLen l) (A.nLen l) := fun l => by subst hA; rfl
    have hFl1 : (ls.take kn).flatten.length ≤ 300 := by have := (take_flat_sub ls kn).length_le; omega
    have hFl2 : (ls.drop kn).flatten.length ≤ 300 := by
      have h : ls.flatten = (ls.take kn).flatten ++ (ls.drop kn).flatten := by rw [← List.flatten_append, List.take_append_drop]
      have := congrArg List.length h
      rw [List.length_append] at this
      omega
    have hok1 : (ls.take kn).any badB = false := any_sub hba fun x hx => List.mem_of_mem_take hx
    have hok2 : (ls.drop kn).any badB = false := any_sub hba fun x hx => List.mem_of_mem_drop hx
    have hok3 : (ls.drop kn ++ ls.take kn).any badB = false := by rw [List.any_append, hok1, hok2]; rfl
    have hpm : addO (ls.drop kn ++ ls.take kn).flatten = addO ls.flatten := by
      refine addO_perm ?_
      rw [List.flatten_append]
      refine List.perm_append_comm.trans ?_
      rw [← List.flatten_append, List.take_append_drop]
    have hprt : addO (addO (ls.take kn).flatten ++ addO (ls.drop kn).flatten) = addO ls.flatten := by
      rw [addO_parts, ← List.flatten_append, List.take_append_drop]
    have c1 := hadd _ _ hd3 (by rw [List.flatten_append, List.length_append]; omega)
    rw [addR_ok hok3, hpm, ← hU] at c1
    have c2 := hadd _ _ hd2 (by omega)
    rw [addR_ok hok1] at c2
    have c3 := hadd _ _ hd1 (by omega)
    rw [addR_ok hok2] at c3
    have hcl : ∀ F : List Use, (addO F).length ≤ F.length := fun F => by
      rw [addO_eq, List.length_map, (sortC_perm _).length_eq, List.length_map]
      exact sumU_len F
    obtain ⟨C, hC⟩ : ∃ C, C = addO (ls.take kn).flatten := ⟨_, rfl⟩
    obtain ⟨D, hD⟩ : ∃ D, D = addO (ls.drop kn).flatten := ⟨_, rfl⟩
    have hCl : C.length ≤ 300 := by have := hcl (ls.take kn).flatten; rw [hC]; omega
    have hDl : D.length ≤ 300 := by have := hcl (ls.drop kn).flatten; rw [hD]; omega
    have hCb : badB C = largeB C := by rw [hC]; exact badB_addO (useOk_of hok1)
    have hDb : badB D = largeB D := by rw [hD]; exact badB_addO (useOk_of hok2)
    rw [← hC, ← hD] at hprt
    rw [← hC] at c2
    rw [← hD] at c3
    obtain ⟨cC, hcC⟩ : ∃ cC, cC = encUses C := ⟨_, rfl⟩
    obtain ⟨cD, hcD⟩ : ∃ cD, cD = encUses D := ⟨_, rfl⟩
    rw [← hcC] at c2
    rw [← hcD] at c3
    have c4 := hadd [C, D] [.list 4 cC, .list 4 cD] (by rw [hcC, hcD]; rfl) (by simp; omega)
    have hlC := law20_large C hcC
    have hlD := law20_large D hcD
    have hsm := same_uses (addO ls.flatten) 4 4 (.inl rfl) (.inl rfl)
    rw [← hU] at hsm
    have hc4 : (badB C || badB D) = false → addR [C, D] = .tup [.list 4 U, .int .i64 0] := fun h => by
      rw [addR_ok (by rw [List.any_cons, List.any_cons, List.any_nil, Bool.or_false]; exact h), show [C, D].flatten = C ++ D by simp, hprt, ← hU]
    have hc5 : (badB C || badB D) = true → addR [C, D] = .tup [.list 0 [], .int .i64 200] := fun h => addR_bad (by rw [List.any_cons, List.any_cons, List.any_nil, Bool.or_false]; exact h)
    clear hC hD hprt hpm hd1 hd2 hd3 hcl
    subst hkk
    refine seq_stop (fun R hR => ?_)
    conv => cbv
    refine ⟨draw_intro hA (by kernel_rfl), ?_⟩
    refine ⟨hsl1, hroom _ _ (Nat.le_trans hn1 (by decide)) (by decide), hsl2, ⟨htk _, hroom _ _ hn2 (by decide)⟩, ?_⟩
    refine hR _ ?_
    clear hR
    refine seq_stop (fun R hR => ?_)
    conv => cbv
    refine call_intro hA (c1) ?_
    conv => cbv
    refine hR _ ?_
    clear hR
    refine seq_stop (fun R hR => ?_)
    conv => cbv
    refine ⟨hsl2, ?_⟩
    refine call_intro hA (c2) ?_
    conv => cbv
    refine hR _ ?_
    clear hR
    refine seq_stop (fun R hR => ?_)
    conv => cbv
    refine ⟨hsl1, ?_⟩
    refine call_intro hA (c3) ?_
    conv => cbv
    refine hR _ ?_
    clear hR
    refine seq_stop (fun R hR => ?_)
    conv => cbv
    split
    · rename_i hc
      cases (neT hA hc rfl)
    conv => cbv
    split
    · rename_i hc
      cases (neT hA hc rfl)
    conv => cbv
    split
    · rename_i hc
      cases (neT hA hc rfl)
    conv => cbv
    refine call_intro hA (hsm) ?_
    conv => cbv
    split
    · rename_i hc
      cases (nT hA hc)
    conv => cbv
    refine hR _ ?_
    clear hR
    refine seq_stop (fun R hR => ?_)
    conv => cbv
    refine hR _ ?_
    clear hR
    refine seq_stop (fun R hR => ?_)
    conv => cbv
    refine loop_set hA (fun (z : Int × Int) s => (s.put (some 17) (.val (.int .i64 z.1))).put (some 16) (.val (.int .i64 z.2))) (fun z => 0 ≤ z.1 ∧ z.1 ≤ ls.length ∧ z.2 = totP (ls.take z.1.toNat).flatten) (fun z => (ls.length - z.1).toNat) (0, 0) ?_ ?_ ?_
    · conv => cbv
      exact wk_sl (by repeat (first | refine leL_same ?_ | refine leL_any ?_ | exact leL_nil))
    · exact ⟨Int.le_refl _, by omega, by simp [totP]⟩
    rintro R1 ⟨i, n⟩ ⟨hi0, hi1, hn⟩ hR1
    simp only at hi0 hi1 hn
    conv => cbv
    split
    · rename_i hc
      have hi : i < ls.length := ltT' hA rfl (lenI hA hxl) hc
      have his : A.iAdd i 1 = i + 1 := addI hA _ _
      have hir : A.inR (A.iAdd i 1) := inR' hA his (by unfold inI64; omega)
      conv => cbv
      refine idx_UseL hA hxs hi0 hi (fun ax v hax hv => ?_)
      have hvl : v.length = ax.length := by rw [hv, encUses_len]
      have htf := take_flat hi0 hax
      have hpl : (ls.take i.toNat).flatten.length + ax.length ≤ 300 := by
        have h := (take_flat_sub ls (i + 1).toNat).length_le
        rw [htf, List.length_append] at h
        omega
      have hpo : ∀ u ∈ (ls.take i.toNat).flatten ++ ax, useOk u = true := fun u hu => by
        rw [← htf] at hu
        exact hok u ((take_flat_sub ls _).subset hu)
      generalize (ls.take i.toNat).flatten = P0 at hn htf hpl hpo
      conv => cbv
      refine loop_set hA (fun (z : Int × Int) s => (s.put (some 101) (.val (.int .i64 z.1))).put (some 16) (.val (.int .i64 z.2))) (fun z => 0 ≤ z.1 ∧ z.1 ≤ ax.length ∧ z.2 = totP (P0 ++ ax.take z.1.toNat)) (fun z => (ax.length - z.1).toNat) (0, n) ?_ ?_ ?_
      · conv => cbv
        exact wk_sl (by repeat (first | refine leL_same ?_ | refine leL_any ?_ | exact leL_nil))
      · exact ⟨Int.le_refl _, by omega, by show n = _; rw [hn]; simp⟩
      rintro R2 ⟨k, m⟩ ⟨hk0, hk1, hm⟩ hR2
      simp only at hk0 hk1 hm
      conv => cbv
      split
      rotate_left
      · rename_i hc
        have hge : (ax.length : Int) ≤ k := ltF' hA rfl (lenI hA hvl) hc
        rw [List.take_of_length_le (by omega)] at hm
        conv => cbv
        refine ⟨hir, hR1 (A.iAdd i 1, m) _ ?_ ?_ ?_⟩
        · conv => cbv
          exact wk_sl (by repeat (first | refine leL_same ?_ | refine leL_any ?_ | exact leL_nil))
        · rw [his]
          exact ⟨by show 0 ≤ i + 1; omega, by show i + 1 ≤ _; omega, by show m = _; rw [hm, htf]⟩
        · rw [his]; simp only; omega
      rename_i hc
      have hk : k < ax.length := ltT' hA rfl (lenI hA hvl) hc
      have hks : A.iAdd k 1 = k + 1 := addI hA _ _
      have hkr : A.inR (A.iAdd k 1) := inR' hA hks (by unfold inI64; omega)
      conv => cbv
      refine idx_Use hA hv hk0 hk (fun u hu => ?_)
      have htk2 := take_snoc' hk0 hu
      have hnx : totP (P0 ++ ax.take (k + 1).toNat) = m + u.Places := by
        rw [htk2, ← List.append_assoc, totP_append, ← hm]
        simp [totP]
      have hbd := totP_le (us := P0 ++ ax.take (k + 1).toNat) (fun u hu => hpo u (by
        rcases List.mem_append.1 hu with h | h
        · exact List.mem_append_left _ h
        · exact List.mem_append_right _ (List.mem_of_mem_take h)))
      rw [hnx, List.length_append] at hbd
      have hbl : (ax.take (k + 1).toNat).length ≤ ax.length := by rw [List.length_take]; omega
      obtain ⟨⟨u1, u2, u3⟩, u4⟩ := u
      simp only at hnx hbd
      have hma : A.iAdd m u4 = m + u4 := addI hA _ _
      conv => cbv
      refine ⟨inR' hA hma (by unfold inI64; omega), hkr, hR2 (A.iAdd k 1, A.iAdd m u4) _ ?_ ?_ ?_⟩
      · (conv => cbv)
        exact wk_round (bx := []) (bx' := [_]) (mp := []) (mp' := []) (by repeat (first | refine leL_same ?_ | refine leL_any ?_ | exact leL_nil)) (by simp) (by simp) rfl rfl
      · rw [hks]
        exact ⟨by show 0 ≤ k + 1; omega, by show k + 1 ≤ _; omega, by show A.iAdd m u4 = _; rw [hma, hnx]⟩
      · rw [hks]; simp only; omega
    rename_i hc
    have hge : (ls.length : Int) ≤ i := ltF' hA rfl (lenI hA hxl) hc
    rw [List.take_of_length_le (by omega)] at hn
    clear hi0 hi1 hge
    conv => cbv
    refine hR _ ?_
    clear hR hR1
    refine seq_stop (fun R hR => ?_)
    conv => cbv
    have hOt := totP_addO ls.flatten
    have hOp := addO_pos hok
    have hOs := addO_sorted ls.flatten
    have hFb := totP_le hok
    have hOl : (addO ls.flatten).length ≤ 300 := by
      have : (addO ls.flatten).length ≤ ls.flatten.length := by
        rw [addO_eq, List.length_map, (sortC_perm _).length_eq, List.length_map]
        exact sumU_len ls.flatten
      omega
    generalize addO ls.flatten = O at hU hOt hOp hOs hOl
    have hUl : U.length = O.length := by rw [hU, encUses_len]
    refine loop_set hA (fun (z : Int × Int) s => (s.put (some 20) (.val (.int .i64 z.1))).put (some 15) (.val (.int .i64 z.2))) (fun z => 0 ≤ z.1 ∧ z.1 ≤ O.length ∧ z.2 = totP (O.take z.1.toNat)) (fun z => (O.length - z.1).toNat) (0, 0) ?_ ?_ ?_
    · conv => cbv
      exact wk_sl (by repeat (first | refine leL_same ?_ | refine leL_any ?_ | exact leL_nil))
    · exact ⟨Int.le_refl _, by omega, by simp [totP]⟩
    rintro R1 ⟨i, m⟩ ⟨hi0, hi1, hm⟩ hR1
    simp only at hi0 hi1 hm
    conv => cbv
    split
    · rename_i hc
      have hi : i < O.length := ltT' hA rfl (lenI hA hUl) hc
      have his : A.iAdd i 1 = i + 1 := addI hA _ _
      have hir : A.inR (A.iAdd i 1) := inR' hA his (by unfold inI64; omega)
      conv => cbv
      refine idx_Use hA hU hi0 hi (fun u hu => ?_)
      have htk2 := take_snoc' hi0 hu
      have hnx : totP (O.take (i + 1).toNat) = m + u.Places := by
        rw [htk2, totP_append, ← hm]
        simp [totP]
      have hbd := totP_take (us := O) (fun u hu => by have := hOp u hu; omega) (i + 1).toNat
      rw [hnx, hOt] at hbd
      have hprev : ∀ w, 0 < i → O[(i - 1).toNat]? = some w → cmpC w.Cell u.Cell = -1 := fun w h0 hw => by
        have h1 := (List.getElem?_eq_some_iff.1 hu).1
        have h2 := List.pairwise_iff_getElem.1 hOs (i - 1).toNat i.toNat (by simp; omega) (by simpa using h1) (by omega)
        simp only [List.getElem_map] at h2
        rw [(List.getElem?_eq_some_iff.1 hw).2, (List.getElem?_eq_some_iff.1 hu).2] at h2
        have h3 := (cmpC_neg _ _).2 h2
        have h4 := cmpC_cases w.Cell u.Cell
        omega
      have hux := hu
      obtain ⟨⟨u1, u2, u3⟩, u4⟩ := u
      simp only at hnx hbd hprev
      have hma : A.iAdd m u4 = m + u4 := addI hA _ _
      have hnext : 0 ≤ A.iAdd i 1 ∧ A.iAdd i 1 ≤ O.length ∧ A.iAdd m u4 = totP (O.take (A.iAdd i 1).toNat) := by
        rw [his, hma, hnx]
        exact ⟨by omega, by omega, rfl⟩
      conv => cbv
      refine ⟨inR' hA hma (by unfold inI64; omega), ?_⟩
      conv => cbv
      refine ⟨draw_intro hA (by kernel_rfl), ?_⟩
      split
      · rename_i hc
        have g := ltT hA hc
        have hsub : A.iSub i 1 = i - 1 := subI hA _ _
        conv => cbv
        refine ⟨inR' hA hsub (by unfold inI64; omega), ?_⟩
        conv => cbv
        refine idx_Use hA hU (n := A.iSub i 1) (by rw [hsub]; omega) (by rw [hsub]; omega) (fun w hw => ?_)
        rw [hsub] at hw
        have hcw := dm_Compare w.Cell ⟨u1, u2, u3⟩
        rw [hprev w g hw] at hcw
        obtain ⟨⟨w1, w2, w3⟩, w4⟩ := w
        conv => cbv
        refine idx_Use hA hU hi0 hi (fun z hz => ?_)
        rw [hux] at hz
        cases hz
        conv => cbv
        refine call_intro hA (hcw) ?_
        conv => cbv
        split
        · rename_i hc
          cases (neT hA hc rfl)
        conv => cbv
        exact ⟨hir, hR1 (A.iAdd i 1, A.iAdd m u4) _ (by (conv => cbv); exact wk_sl (by repeat (first | refine leL_same ?_ | refine leL_any ?_ | exact leL_nil))) hnext (by show (O.length - A.iAdd i 1).toNat < _; rw [his]; show _ < (O.length - i).toNat; omega)⟩
      · rename_i hc
        conv => cbv
        exact ⟨hir, hR1 (A.iAdd i 1, A.iAdd m u4) _ (by (conv => cbv); exact wk_sl (by repeat (first | refine leL_same ?_ | refine leL_any ?_ | exact leL_nil))) hnext (by show (O.length - A.iAdd i 1).toNat < _; rw [his]; show _ < (O.length - i).toNat; omega)⟩
    rename_i hc
    have hge : (O.length : Int) ≤ i := ltF' hA rfl (lenI hA hUl) hc
    rw [List.take_of_length_le (by omega), hOt] at hm
    clear hi0 hi1 hge
    conv => cbv
    refine hR _ ?_
    clear hR hR1
    refine seq_stop (fun R hR => ?_)
    cases hcd : (badB C || badB D) with
    | false =>
      rw [hc4 hcd] at c4
      conv => cbv
      refine call_intro hA (c4) ?_
      conv => cbv
      refine hR _ ?_
      clear hR
      conv => cbv
      split
      rotate_left
      · rename_i hc
        cases (eqF hA hc (by rw [hm, hn]) : False)
      conv => cbv
      split
      rotate_left
      · rename_i hc
        cases (eqF hA hc rfl)
      conv => cbv
      refine call_intro hA (hsm) ?_
      conv => cbv
      exact hq
    | true =>
      rw [hc5 hcd] at c4
      rw [hCb, hDb] at hcd
      generalize largeB C = l1 at hlC hcd
      generalize largeB D = l2 at hlD hcd
      conv => cbv
      refine call_intro hA (c4) ?_
      conv => cbv
      refine hR _ ?_
      clear hR
      conv => cbv
      split
      rotate_left
      · rename_i hc
        cases (eqF hA hc (by rw [hm, hn]) : False)
      conv => cbv
      split
      · rename_i hc
        cases (absurd (eqT hA hc) (by decide) : False)
      conv => cbv
      split
      rotate_left
      · rename_i hc
        cases (eqF hA hc rfl)
      conv => cbv
      refine call_intro hA (hlC) ?_
      conv => cbv
      cases l1 with
      | true =>
        conv => cbv
        exact hq
      | false =>
        conv => cbv
        refine call_intro hA (hlD) ?_
        conv => cbv
        rw [← hq]
        simpa using hcd
  · rename_i hc
    have hk0 : (0 : Int) ≤ 0 ∧ (0 : Int) ≤ ls.length := ⟨by omega, by omega⟩
    conv => cbv
    refine hR _ ?_
    clear hR
    obtain ⟨kn, hkn⟩ : ∃ kn : Nat, kn = (0 : Int).toNat := ⟨_, rfl⟩
    have hkl : kn ≤ ls.length := by omega
    have hd1 : A.lSub xs 0 (A.lLen xs) = encUseLs (ls.drop kn) := by
      subst hA
      show (xs.take (xs.length : Int).toNat).drop (0 : Int).toNat = _
      rw [show (xs.length : Int).toNat = xs.length from rfl, List.take_length, hxs, ← hkn]
      unfold encUseLs
      rw [List.map_drop]
    have hd2 : A.lSub xs 0 0 = encUseLs (ls.take kn) := by
      subst hA
      show (xs.take (0 : Int).toNat).drop (0 : Int).toNat = _
      rw [hxs]
      unfold encUseLs
      rw [hkn, List.map_take]
      rfl
    have hd3 : A.lApp (A.lApp [] (A.lSub xs 0 (A.lLen xs))) (A.lSub xs 0 0) = encUseLs (ls.drop kn ++ ls.take kn) := by
      rw [hd1, hd2]
      subst hA
      show ([] ++ _) ++ _ = _
      unfold encUseLs
      rw [List.map_append]; rfl
    have hsl1 : A.sl 0 (A.lLen xs) (A.lLen xs) := by subst hA; show 0 ≤ (0 : Int) ∧ 0 ≤ (xs.length : Int) ∧ (xs.length : Int) ≤ xs.length; omega
    have hsl2 : A.sl 0 0 (A.lLen xs) := by subst hA; show (0 : Int) ≤ 0 ∧ 0 ≤ (0 : Int) ∧ 0 ≤ (xs.length : Int); omega
    have hn1 : (A.lApp [] (A.lSub xs 0 (A.lLen xs))).length ≤ 12 := by
      rw [hd1]; subst hA; show ([] ++ _ : List PV).length ≤ _; simp [encUseLs]; omega
    have hn2 : (A.lApp (A.lApp [] (A.lSub xs 0 (A.lLen xs))) (A.lSub xs 0 0)).length ≤ 24 := by
      rw [hd3]; simp [encUseLs]; omega
    have hroom : ∀ (l : List PV) (n : Nat), l.length ≤ 24 → n ≤ 1000 → A.room (A.nLen l) n := fun l n h h2 => by
      subst hA
      show l.length * (n + 1) ≤ _
      exact Nat.le_trans (Nat.mul_le_mul h (Nat.succ_le_succ h2)) (by decide)
    have htk : ∀ l : List PV, A.tkEq (A.nLen l) (A.nLen l) := fun l => by subst hA; rfl
    have hFl1 : (ls.take kn).flatten.length ≤ 300 := by have := (take_flat_sub ls kn).length_le; omega
    have hFl2 : (ls.drop kn).flatten.length ≤ 300 := by
      have h : ls.flatten = (ls.take kn).flatten ++ (ls.drop kn).flatten := by rw [← List.flatten_append, List.take_append_drop]
      have := congrArg List.length h
      rw [List.length_append] at this
      omega
    have hok1 : (ls.take kn).any badB = false := any_sub hba fun x hx => List.mem_of_mem_take hx
    have hok2 : (ls.drop kn).any badB = false := any_sub hba fun x hx => List.mem_of_mem_drop hx
    have hok3 : (ls.drop kn ++ ls.take kn).any badB = false := by rw [List.any_append, hok1, hok2]; rfl
    have hpm : addO (ls.drop kn ++ ls.take kn).flatten = addO ls.flatten := by
      refine addO_perm ?_
      rw [List.flatten_append]
      refine List.perm_append_comm.trans ?_
      rw [← List.flatten_append, List.take_append_drop]
    have hprt : addO (addO (ls.take kn).flatten ++ addO (ls.drop kn).flatten) = addO ls.flatten := by
      rw [addO_parts, ← List.flatten_append, List.take_append_drop]
    have c1 := hadd _ _ hd3 (by rw [List.flatten_append, List.length_append]; omega)
    rw [addR_ok hok3, hpm, ← hU] at c1
    have c2 := hadd _ _ hd2 (by omega)
    rw [addR_ok hok1] at c2
    have c3 := hadd _ _ hd1 (by omega)
    rw [addR_ok hok2] at c3
    have hcl : ∀ F : List Use, (addO F).length ≤ F.length := fun F => by
      rw [addO_eq, List.length_map, (sortC_perm _).length_eq, List.length_map]
      exact sumU_len F
    obtain ⟨C, hC⟩ : ∃ C, C = addO (ls.take kn).flatten := ⟨_, rfl⟩
    obtain ⟨D, hD⟩ : ∃ D, D = addO (ls.drop kn).flatten := ⟨_, rfl⟩
    have hCl : C.length ≤ 300 := by have := hcl (ls.take kn).flatten; rw [hC]; omega
    have hDl : D.length ≤ 300 := by have := hcl (ls.drop kn).flatten; rw [hD]; omega
    have hCb : badB C = largeB C := by rw [hC]; exact badB_addO (useOk_of hok1)
    have hDb : badB D = largeB D := by rw [hD]; exact badB_addO (useOk_of hok2)
    rw [← hC, ← hD] at hprt
    rw [← hC] at c2
    rw [← hD] at c3
    obtain ⟨cC, hcC⟩ : ∃ cC, cC = encUses C := ⟨_, rfl⟩
    obtain ⟨cD, hcD⟩ : ∃ cD, cD = encUses D := ⟨_, rfl⟩
    rw [← hcC] at c2
    rw [← hcD] at c3
    have c4 := hadd [C, D] [.list 4 cC, .list 4 cD] (by rw [hcC, hcD]; rfl) (by simp; omega)
    have hlC := law20_large C hcC
    have hlD := law20_large D hcD
    have hsm := same_uses (addO ls.flatten) 4 4 (.inl rfl) (.inl rfl)
    rw [← hU] at hsm
    have hc4 : (badB C || badB D) = false → addR [C, D] = .tup [.list 4 U, .int .i64 0] := fun h => by
      rw [addR_ok (by rw [List.any_cons, List.any_cons, List.any_nil, Bool.or_false]; exact h), show [C, D].flatten = C ++ D by simp, hprt, ← hU]
    have hc5 : (badB C || badB D) = true → addR [C, D] = .tup [.list 0 [], .int .i64 200] := fun h => addR_bad (by rw [List.any_cons, List.any_cons, List.any_nil, Bool.or_false]; exact h)
    clear hC hD hprt hpm hd1 hd2 hd3 hcl
    refine seq_stop (fun R hR => ?_)
    conv => cbv
    refine ⟨draw_intro hA (by kernel_rfl), ?_⟩
    refine ⟨hsl1, hroom _ _ (Nat.le_trans hn1 (by decide)) (by decide), hsl2, ⟨htk _, hroom _ _ hn2 (by decide)⟩, ?_⟩
    refine hR _ ?_
    clear hR
    refine seq_stop (fun R hR => ?_)
    conv => cbv
    refine call_intro hA (c1) ?_
    conv => cbv
    refine hR _ ?_
    clear hR
    refine seq_stop (fun R hR => ?_)
    conv => cbv
    refine ⟨hsl2, ?_⟩
    refine call_intro hA (c2) ?_
    conv => cbv
    refine hR _ ?_
    clear hR
    refine seq_stop (fun R hR => ?_)
    conv => cbv
    refine ⟨hsl1, ?_⟩
    refine call_intro hA (c3) ?_
    conv => cbv
    refine hR _ ?_
    clear hR
    refine seq_stop (fun R hR => ?_)
    conv => cbv
    split
    · rename_i hc
      cases (neT hA hc rfl)
    conv => cbv
    split
    · rename_i hc
      cases (neT hA hc rfl)
    conv => cbv
    split
    · rename_i hc
      cases (neT hA hc rfl)
    conv => cbv
    refine call_intro hA (hsm) ?_
    conv => cbv
    split
    · rename_i hc
      cases (nT hA hc)
    conv => cbv
    refine hR _ ?_
    clear hR
    refine seq_stop (fun R hR => ?_)
    conv => cbv
    refine hR _ ?_
    clear hR
    refine seq_stop (fun R hR => ?_)
    conv => cbv
    refine loop_set hA (fun (z : Int × Int) s => (s.put (some 17) (.val (.int .i64 z.1))).put (some 16) (.val (.int .i64 z.2))) (fun z => 0 ≤ z.1 ∧ z.1 ≤ ls.length ∧ z.2 = totP (ls.take z.1.toNat).flatten) (fun z => (ls.length - z.1).toNat) (0, 0) ?_ ?_ ?_
    · conv => cbv
      exact wk_sl (by repeat (first | refine leL_same ?_ | refine leL_any ?_ | exact leL_nil))
    · exact ⟨Int.le_refl _, by omega, by simp [totP]⟩
    rintro R1 ⟨i, n⟩ ⟨hi0, hi1, hn⟩ hR1
    simp only at hi0 hi1 hn
    conv => cbv
    split
    · rename_i hc
      have hi : i < ls.length := ltT' hA rfl (lenI hA hxl) hc
      have his : A.iAdd i 1 = i + 1 := addI hA _ _
      have hir : A.inR (A.iAdd i 1) := inR' hA his (by unfold inI64; omega)
      conv => cbv
      refine idx_UseL hA hxs hi0 hi (fun ax v hax hv => ?_)
      have hvl : v.length = ax.length := by rw [hv, encUses_len]
      have htf := take_flat hi0 hax
      have hpl : (ls.take i.toNat).flatten.length + ax.length ≤ 300 := by
        have h := (take_flat_sub ls (i + 1).toNat).length_le
        rw [htf, List.length_append] at h
        omega
      have hpo : ∀ u ∈ (ls.take i.toNat).flatten ++ ax, useOk u = true := fun u hu => by
        rw [← htf] at hu
        exact hok u ((take_flat_sub ls _).subset hu)
      generalize (ls.take i.toNat).flatten = P0 at hn htf hpl hpo
      conv => cbv
      refine loop_set hA (fun (z : Int × Int) s => (s.put (some 101) (.val (.int .i64 z.1))).put (some 16) (.val (.int .i64 z.2))) (fun z => 0 ≤ z.1 ∧ z.1 ≤ ax.length ∧ z.2 = totP (P0 ++ ax.take z.1.toNat)) (fun z => (ax.length - z.1).toNat) (0, n) ?_ ?_ ?_
      · conv => cbv
        exact wk_sl (by repeat (first | refine leL_same ?_ | refine leL_any ?_ | exact leL_nil))
      · exact ⟨Int.le_refl _, by omega, by show n = _; rw [hn]; simp⟩
      rintro R2 ⟨k, m⟩ ⟨hk0, hk1, hm⟩ hR2
      simp only at hk0 hk1 hm
      conv => cbv
      split
      rotate_left
      · rename_i hc
        have hge : (ax.length : Int) ≤ k := ltF' hA rfl (lenI hA hvl) hc
        rw [List.take_of_length_le (by omega)] at hm
        conv => cbv
        refine ⟨hir, hR1 (A.iAdd i 1, m) _ ?_ ?_ ?_⟩
        · conv => cbv
          exact wk_sl (by repeat (first | refine leL_same ?_ | refine leL_any ?_ | exact leL_nil))
        · rw [his]
          exact ⟨by show 0 ≤ i + 1; omega, by show i + 1 ≤ _; omega, by show m = _; rw [hm, htf]⟩
        · rw [his]; simp only; omega
      rename_i hc
      have hk : k < ax.length := ltT' hA rfl (lenI hA hvl) hc
      have hks : A.iAdd k 1 = k + 1 := addI hA _ _
      have hkr : A.inR (A.iAdd k 1) := inR' hA hks (by unfold inI64; omega)
      conv => cbv
      refine idx_Use hA hv hk0 hk (fun u hu => ?_)
      have htk2 := take_snoc' hk0 hu
      have hnx : totP (P0 ++ ax.take (k + 1).toNat) = m + u.Places := by
        rw [htk2, ← List.append_assoc, totP_append, ← hm]
        simp [totP]
      have hbd := totP_le (us := P0 ++ ax.take (k + 1).toNat) (fun u hu => hpo u (by
        rcases List.mem_append.1 hu with h | h
        · exact List.mem_append_left _ h
        · exact List.mem_append_right _ (List.mem_of_mem_take h)))
      rw [hnx, List.length_append] at hbd
      have hbl : (ax.take (k + 1).toNat).length ≤ ax.length := by rw [List.length_take]; omega
      obtain ⟨⟨u1, u2, u3⟩, u4⟩ := u
      simp only at hnx hbd
      have hma : A.iAdd m u4 = m + u4 := addI hA _ _
      conv => cbv
      refine ⟨inR' hA hma (by unfold inI64; omega), hkr, hR2 (A.iAdd k 1, A.iAdd m u4) _ ?_ ?_ ?_⟩
      · (conv => cbv)
        exact wk_round (bx := []) (bx' := [_]) (mp := []) (mp' := []) (by repeat (first | refine leL_same ?_ | refine leL_any ?_ | exact leL_nil)) (by simp) (by simp) rfl rfl
      · rw [hks]
        exact ⟨by show 0 ≤ k + 1; omega, by show k + 1 ≤ _; omega, by show A.iAdd m u4 = _; rw [hma, hnx]⟩
      · rw [hks]; simp only; omega
    rename_i hc
    have hge : (ls.length : Int) ≤ i := ltF' hA rfl (lenI hA hxl) hc
    rw [List.take_of_length_le (by omega)] at hn
    clear hi0 hi1 hge
    conv => cbv
    refine hR _ ?_
    clear hR hR1
    refine seq_stop (fun R hR => ?_)
    conv => cbv
    have hOt := totP_addO ls.flatten
    have hOp := addO_pos hok
    have hOs := addO_sorted ls.flatten
    have hFb := totP_le hok
    have hOl : (addO ls.flatten).length ≤ 300 := by
      have : (addO ls.flatten).length ≤ ls.flatten.length := by
        rw [addO_eq, List.length_map, (sortC_perm _).length_eq, List.length_map]
        exact sumU_len ls.flatten
      omega
    generalize addO ls.flatten = O at hU hOt hOp hOs hOl
    have hUl : U.length = O.length := by rw [hU, encUses_len]
    refine loop_set hA (fun (z : Int × Int) s => (s.put (some 20) (.val (.int .i64 z.1))).put (some 15) (.val (.int .i64 z.2))) (fun z => 0 ≤ z.1 ∧ z.1 ≤ O.length ∧ z.2 = totP (O.take z.1.toNat)) (fun z => (O.length - z.1).toNat) (0, 0) ?_ ?_ ?_
    · conv => cbv
      exact wk_sl (by repeat (first | refine leL_same ?_ | refine leL_any ?_ | exact leL_nil))
    · exact ⟨Int.le_refl _, by omega, by simp [totP]⟩
    rintro R1 ⟨i, m⟩ ⟨hi0, hi1, hm⟩ hR1
    simp only at hi0 hi1 hm
    conv => cbv
    split
    · rename_i hc
      have hi : i < O.length := ltT' hA rfl (lenI hA hUl) hc
      have his : A.iAdd i 1 = i + 1 := addI hA _ _
      have hir : A.inR (A.iAdd i 1) := inR' hA his (by unfold inI64; omega)
      conv => cbv
      refine idx_Use hA hU hi0 hi (fun u hu => ?_)
      have htk2 := take_snoc' hi0 hu
      have hnx : totP (O.take (i + 1).toNat) = m + u.Places := by
        rw [htk2, totP_append, ← hm]
        simp [totP]
      have hbd := totP_take (us := O) (fun u hu => by have := hOp u hu; omega) (i + 1).toNat
      rw [hnx, hOt] at hbd
      have hprev : ∀ w, 0 < i → O[(i - 1).toNat]? = some w → cmpC w.Cell u.Cell = -1 := fun w h0 hw => by
        have h1 := (List.getElem?_eq_some_iff.1 hu).1
        have h2 := List.pairwise_iff_getElem.1 hOs (i - 1).toNat i.toNat (by simp; omega) (by simpa using h1) (by omega)
        simp only [List.getElem_map] at h2
        rw [(List.getElem?_eq_some_iff.1 hw).2, (List.getElem?_eq_some_iff.1 hu).2] at h2
        have h3 := (cmpC_neg _ _).2 h2
        have h4 := cmpC_cases w.Cell u.Cell
        omega
      have hux := hu
      obtain ⟨⟨u1, u2, u3⟩, u4⟩ := u
      simp only at hnx hbd hprev
      have hma : A.iAdd m u4 = m + u4 := addI hA _ _
      have hnext : 0 ≤ A.iAdd i 1 ∧ A.iAdd i 1 ≤ O.length ∧ A.iAdd m u4 = totP (O.take (A.iAdd i 1).toNat) := by
        rw [his, hma, hnx]
        exact ⟨by omega, by omega, rfl⟩
      conv => cbv
      refine ⟨inR' hA hma (by unfold inI64; omega), ?_⟩
      conv => cbv
      refine ⟨draw_intro hA (by kernel_rfl), ?_⟩
      split
      · rename_i hc
        have g := ltT hA hc
        have hsub : A.iSub i 1 = i - 1 := subI hA _ _
        conv => cbv
        refine ⟨inR' hA hsub (by unfold inI64; omega), ?_⟩
        conv => cbv
        refine idx_Use hA hU (n := A.iSub i 1) (by rw [hsub]; omega) (by rw [hsub]; omega) (fun w hw => ?_)
        rw [hsub] at hw
        have hcw := dm_Compare w.Cell ⟨u1, u2, u3⟩
        rw [hprev w g hw] at hcw
        obtain ⟨⟨w1, w2, w3⟩, w4⟩ := w
        conv => cbv
        refine idx_Use hA hU hi0 hi (fun z hz => ?_)
        rw [hux] at hz
        cases hz
        conv => cbv
        refine call_intro hA (hcw) ?_
        conv => cbv
        split
        · rename_i hc
          cases (neT hA hc rfl)
        conv => cbv
        exact ⟨hir, hR1 (A.iAdd i 1, A.iAdd m u4) _ (by (conv => cbv); exact wk_sl (by repeat (first | refine leL_same ?_ | refine leL_any ?_ | exact leL_nil))) hnext (by show (O.length - A.iAdd i 1).toNat < _; rw [his]; show _ < (O.length - i).toNat; omega)⟩
      · rename_i hc
        conv => cbv
        exact ⟨hir, hR1 (A.iAdd i 1, A.iAdd m u4) _ (by (conv => cbv); exact wk_sl (by repeat (first | refine leL_same ?_ | refine leL_any ?_ | exact leL_nil))) hnext (by show (O.length - A.iAdd i 1).toNat < _; rw [his]; show _ < (O.length - i).toNat; omega)⟩
    rename_i hc
    have hge : (O.length : Int) ≤ i := ltF' hA rfl (lenI hA hUl) hc
    rw [List.take_of_length_le (by omega), hOt] at hm
    clear hi0 hi1 hge
    conv => cbv
    refine hR _ ?_
    clear hR hR1
    refine seq_stop (fun R hR => ?_)
    cases hcd : (badB C || badB D) with
    | false =>
      rw [hc4 hcd] at c4
      conv => cbv
      refine call_intro hA (c4) ?_
      conv => cbv
      refine hR _ ?_
      clear hR
      conv => cbv
      split
      rotate_left
      · rename_i hc
        cases (eqF hA hc (by rw [hm, hn]) : False)
      conv => cbv
      split
      rotate_left
      · rename_i hc
        cases (eqF hA hc rfl)
      conv => cbv
      refine call_intro hA (hsm) ?_
      conv => cbv
      exact hq
    | true =>
      rw [hc5 hcd] at c4
      rw [hCb, hDb] at hcd
      generalize largeB C = l1 at hlC hcd
      generalize largeB D = l2 at hlD hcd
      conv => cbv
      refine call_intro hA (c4) ?_
      conv => cbv
      refine hR _ ?_
      clear hR
      conv => cbv
      split
      rotate_left
      · rename_i hc
        cases (eqF hA hc (by rw [hm, hn]) : False)
      conv => cbv
      split
      · rename_i hc
        cases (absurd (eqT hA hc) (by decide) : False)
      conv => cbv
      split
      rotate_left
      · rename_i hc
        cases (eqF hA hc rfl)
      conv => cbv
      refine call_intro hA (hlC) ?_
      conv => cbv
      cases l1 with
      | true =>
        conv => cbv
        exact hq
      | false =>
        conv => cbv
        refine call_intro hA (hlD) ?_
        conv => cbv
        rw [← hq]
        simpa using hcd

theorem law_DemandSums (ls : List (List Use)) (n : Int) (h1 : (∀ x ∈ ls, (∀ y ∈ x, okUse y) ∧ x.length * Program.bytesOf Tryz.prog 55 ≤ reachBytes) ∧ ls.length * Program.bytesOf Tryz.prog 35 ≤ reachBytes) (h2 : (Lit.int .u8 n).wf = true) :
    CallsPV Tryz.prog 8 [.list 1 (encUseLs ls), .int .u8 n] (.bool true) := law_DemandSums0 ls n (by
  simp [Lit.wf, IntKind.min, IntKind.max, IntKind.signed, IntKind.bits] at h2
  omega) (lensW h1)
end Go.Abs
