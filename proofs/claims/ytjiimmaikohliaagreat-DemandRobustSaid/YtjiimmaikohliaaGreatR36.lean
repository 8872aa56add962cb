/-
  References: ref20.Sure.
-/
import Derived.Test.YtjiimmaikohliaaGreatR35
set_option linter.unusedVariables false
set_option linter.unusedSimpArgs false
namespace Go.Abs
open Go.RowKit Go.Proofs

theorem filter_snoc {α : Type} {l : List α} {f : α → Bool} {k : Int} {x : α} (h : l.take (k + 1).toNat = l.take k.toNat ++ [x]) : (l.take (k + 1).toNat).filter f = (l.take k.toNat).filter f ++ if f x then [x] else [] := by
  rw [h, List.filter_append]
  cases hx : f x <;> simp [hx]

set_option maxRecDepth 40000 in
set_option maxHeartbeats 4000000 in
theorem ref20_Sure (t : Tables) (s : List Change) (cl : Int) (l : List Path) {xs : List PV} (hx : xs = encPaths l) (hlen : l.length ≤ 60) :
    CallsPV Tryz.prog 15 [encTables t, encScheme s, .int .i64 cl, .list 2 xs] (if l = [] then .tup [.list 0 [], .int .i64 (cntErr t s cl l)] else leastR t s cl l l.length) := by
  refine callsPV_by (clo := fun _ => false) (rows := false) env_ok Tryz.func15 rfl (enters_of Tryz.func15 (by kernel_rfl) rfl) (fun A q P Y hr hA hq => ?_)
  have hall := ref20_cells t s cl l (by omega) hx
  have hal := allR_len (t := t) (s := s) (cl := cl) (l := l)
  have hlr : (allR t s l).length = l.length := by simp [allR]
  have hclk : cntErr t s cl l = 0 → 0 ≤ cl ∧ cl < t.Kinds.length := fun h => by
    unfold cntErr at h
    split at h
    · rename_i h1; exact absurd h h1
    · split at h
      · cases h
      · omega
  have hup : ∀ p r, l = p :: r → (cellsR t s p).filter (fun c => (allR t s l).all fun L => decide (c ∈ L)) = leastC (l.map (pathCells t s)) l.length := fun p r h => by rw [h]; exact sure_plain t s p r
  have hfst : ∀ p r, l = p :: r → (allR t s l)[0]? = some (cellsR t s p) := fun p r h => by rw [h]; rfl
  unfold cellsLRes at hall
  unfold leastR leastU at hq
  generalize cntErr t s cl l = e at hall hq hal hclk
  generalize allR t s l = all at hall hal hlr hup hfst
  have hpl : ∀ k, t.Kinds[cl.toNat]? = some k → placesC t cl = k.Places := fun k h => by unfold placesC; rw [h]
  generalize placesC t cl = pl at hq hpl
  obtain ⟨ys, hys⟩ : ∃ ys, ys = encCellLs all := ⟨_, rfl⟩
  have hyl : ys.length = all.length := by rw [hys]; simp [encCellLs]
  rw [← hys] at hall
  obtain ⟨ss, hss⟩ : ∃ ss, ss = encSectors t.Sectors := ⟨_, rfl⟩
  obtain ⟨cs, hcs⟩ : ∃ cs, cs = encConfigs t.Configs := ⟨_, rfl⟩
  obtain ⟨ws, hws⟩ : ∃ ws, ws = encWays t.Ways := ⟨_, rfl⟩
  obtain ⟨ms, hms⟩ : ∃ ms, ms = encIntLs t.Modes := ⟨_, rfl⟩
  obtain ⟨ks, hks⟩ : ∃ ks, ks = encKinds t.Kinds := ⟨_, rfl⟩
  obtain ⟨nv, hnv⟩ : ∃ nv, nv = t.Volumes := ⟨_, rfl⟩
  have htab : encTables t = .agg [.int .i64 nv, .list 5 ss, .list 3 cs, .list 3 ws, .list 1 ms, .list 6 ks] := by rw [encTables_eq t hss hcs hws hms hks, hnv]
  rw [htab] at hall ⊢
  have hkl : ks.length = t.Kinds.length := by rw [hks]; simp [encKinds]
  obtain ⟨sc, hsc⟩ : ∃ sc, sc = encChanges s := ⟨_, rfl⟩
  rw [encScheme_eq hsc] at hall ⊢
  by_cases he : e = 0
  rotate_left
  · rw [if_neg he] at hall
    have hq2 : PV.tup [.list 0 [], .int .i64 e] = q := by rw [← hq]; split <;> simp [he]
    conv => cbv
    refine call_intro hA (hall) ?_
    conv => cbv
    split
    rotate_left
    · rename_i hc
      exact absurd (neF hA hc) he
    conv => cbv
    exact hq2
  rw [if_pos he] at hall
  subst he
  conv => cbv
  refine call_intro hA (hall) ?_
  conv => cbv
  split
  · rename_i hc
    cases ((neT hA hc rfl))
  conv => cbv
  split
  · rename_i hc
    have h0 := eqT' hA (lenI hA hyl) rfl hc
    have hl0 : l = [] := List.eq_nil_of_length_eq_zero (by omega)
    rw [if_pos hl0] at hq
    conv => cbv
    exact hq
  rename_i hc
  have h0 := eqF' hA (lenI hA hyl) rfl hc
  cases l with
  | nil => exact absurd (show (all.length : Int) = 0 by rw [hlr]; rfl) h0
  | cons p r => ?_
  have hup := hup p r rfl
  have hfst := hfst p r rfl
  rw [if_neg (by simp), if_neg (by simp), ← hup] at hq
  clear hup
  have hal := hal rfl
  obtain ⟨hcl0, hcl1⟩ := hclk rfl
  have hfl := hal _ (List.mem_of_getElem? hfst)
  generalize cellsR t s p = C at hq hfst hfl
  obtain ⟨ev, hev⟩ : ∃ ev : Cell → Bool, ev = fun c => all.all fun L => decide (c ∈ L) := ⟨_, rfl⟩
  have hev1 : ∀ c, ev c = all.all fun L => decide (c ∈ L) := fun c => by rw [hev]
  rw [← hev] at hq
  clear hev
  have hC : ∀ {K : List PV → Prop}, (∀ v, v = encCells C → K [.list 3 v]) → A.idx ys 0 K := fun {K} h => idx_CellL hA hys (Int.le_refl 0) (by omega) (fun z v hz hv => by
    have hz : all[0]? = some z := hz
    rw [hfst] at hz; cases hz; exact h v hv)
  obtain ⟨cv, hcv⟩ : ∃ cv, cv = encCells C := ⟨_, rfl⟩
  have hcvl : cv.length = C.length := by rw [hcv, encCells_len]
  have hC2 : ∀ {K : List PV → Prop}, K [.list 3 cv] → A.idx ys 0 K := fun {K} h => hC fun v hv => by rw [← hcv] at hv; rw [hv]; exact h
  clear hC
  conv => cbv
  refine loop_set hA (fun (z : Int × List PV) s => { (s.put (some 13) (.val (.int .i64 z.1))).put (some 12) (.own 0 3 z.2) with tk := [(A.nLen z.2, 43)] })
    (fun z => 0 ≤ z.1 ∧ z.1 ≤ C.length ∧ z.2 = encCells ((C.take z.1.toNat).filter ev)) (fun z => (C.length - z.1).toNat) (0, []) ?_ ?_ ?_
  · conv => cbv
    exact wk_own 12 0 3 [] _ rfl (.inr rfl) (by repeat (first | refine leL_same ?_ | refine leL_any ?_ | exact leL_nil)) (by subst hA; rfl)
  · exact ⟨Int.le_refl _, by omega, rfl⟩
  rintro R2 ⟨k, M⟩ ⟨hk0, hk1, hM⟩ hR2
  simp only at hk0 hk1 hM
  conv => cbv
  refine hC2 ?_
  conv => cbv
  split
  rotate_left
  · rename_i hc
    have hge : (C.length : Int) ≤ k := ltF' hA rfl (lenI hA hcvl) hc
    rw [List.take_of_length_le (by omega)] at hM
    have hul : (C.filter ev).length ≤ 1000000 := Nat.le_trans (List.length_filter_le _ _) (by omega)
    have hus := ref20_uses (C.filter ev) pl hul hM
    generalize encUses ((C.filter ev).map fun c => ⟨c, pl⟩) = us at hq hus
    conv => cbv
    refine idx_Kind hA hks hcl0 hcl1 (fun kd kv hkd hkv => ?_)
    have hplk := hpl kd hkd
    obtain ⟨kd1, kd2, kd3, kd4, kd5, kd6⟩ := kd
    simp only at hplk
    subst hplk
    conv => cbv
    refine call_intro hA (hus) ?_
    conv => cbv
    exact hq
  rename_i hc
  have hk : k < C.length := ltT' hA rfl (lenI hA hcvl) hc
  have hks' : A.iAdd k 1 = k + 1 := addI hA _ _
  have hkr : A.inR (A.iAdd k 1) := inR' hA hks' (by unfold inI64; omega)
  have hcx := List.getElem?_eq_getElem (show k.toNat < C.length by omega)
  obtain ⟨cx, hcx'⟩ : ∃ x, x = C[k.toNat]'(by omega) := ⟨_, rfl⟩
  rw [← hcx'] at hcx
  clear hcx'
  have htk := filter_snoc (f := ev) (take_snoc' hk0 hcx)
  have hMl : M.length ≤ 14400 := by
    rw [hM, encCells_len]
    refine Nat.le_trans (List.length_filter_le _ _) ?_
    rw [List.length_take]; omega
  conv => cbv
  refine loop_set hA (fun (z : Int × Bool) s => (s.put (some 15) (.val (.int .i64 z.1))).put (some 14) (.val (.bool z.2))) (fun z => 0 ≤ z.1 ∧ z.1 ≤ all.length ∧ z.2 = (all.take z.1.toNat).all fun L => decide (cx ∈ L)) (fun z => (all.length - z.1).toNat) (0, true) ?_ ?_ ?_
  · conv => cbv
    exact wk_sl (by repeat (first | refine leL_same ?_ | refine leL_any ?_ | exact leL_nil))
  · exact ⟨Int.le_refl _, by omega, rfl⟩
  rintro R3 ⟨i, b⟩ ⟨hi0, hi1, hb⟩ hR3
  simp only at hi0 hi1 hb
  conv => cbv
  split
  rotate_left
  · rename_i hc
    have hge : (all.length : Int) ≤ i := ltF' hA rfl (lenI hA hyl) hc
    rw [List.take_of_length_le (by omega), ← hev1] at hb
    conv => cbv
    cases b with
    | false =>
      rw [← hb] at htk
      conv => cbv
      refine ⟨hkr, hR2 (A.iAdd k 1, M) _ ?_ ?_ ?_⟩
      · conv => cbv
        exact wk_sl (by repeat (first | refine leL_same ?_ | refine leL_any ?_ | exact leL_nil))
      · rw [hks']
        exact ⟨by show 0 ≤ k + 1; omega, by show k + 1 ≤ _; omega, by show M = _; rw [hM, htk]; simp⟩
      · rw [hks']; simp only; omega
    | true =>
      rw [← hb] at htk
      have hnext : A.lApp M [encCell cx] = encCells ((C.take (k + 1).toNat).filter ev) := by
        rw [htk, hM]
        subst hA
        show encCells _ ++ _ = _
        simp [encCells]
      have hroom : A.room (A.nLen (A.lApp M [encCell cx])) 24 := by
        subst hA
        show (M ++ [_]).length * (24 + 1) ≤ 140737488355328
        rw [List.length_append, List.length_singleton]
        omega
      have htk' : A.tkEq (A.nLen M) (A.nLen M) := by subst hA; rfl
      conv => cbv
      refine hC2 ?_
      conv => cbv
      refine idx_Cell hA hcv hk0 hk (fun z hz => ?_)
      rw [hcx] at hz
      cases hz
      obtain ⟨c1, c2, c3⟩ := cx
      conv => cbv
      refine ⟨⟨htk', hroom⟩, hkr, hR2 (A.iAdd k 1, A.lApp M [.agg [.bool c1, .int .i64 c2, .int .i64 c3]]) _ ?_ ?_ ?_⟩
      · conv => cbv
        exact wk_sl (by repeat (first | refine leL_same ?_ | refine leL_any ?_ | exact leL_nil))
      · rw [hks']
        exact ⟨by show 0 ≤ k + 1; omega, by show k + 1 ≤ _; omega, hnext⟩
      · rw [hks']; simp only; omega
  rename_i hc
  have hi : i < all.length := ltT' hA rfl (lenI hA hyl) hc
  have his : A.iAdd i 1 = i + 1 := addI hA _ _
  have hir : A.inR (A.iAdd i 1) := inR' hA his (by unfold inI64; omega)
  have him : (all.length - A.iAdd i 1).toNat < (all.length - i).toNat := by rw [his]; omega
  have hax := List.getElem?_eq_getElem (show i.toNat < all.length by omega)
  obtain ⟨ax, hax'⟩ : ∃ x, x = all[i.toNat]'(by omega) := ⟨_, rfl⟩
  rw [← hax'] at hax
  clear hax'
  have htk2 : ((all.take (i + 1).toNat).all fun L => decide (cx ∈ L)) = (b && decide (cx ∈ ax)) := by
    rw [take_snoc' hi0 hax, List.all_append, ← hb]; simp
  have hnx : ∀ b', b' = (b && decide (cx ∈ ax)) → 0 ≤ A.iAdd i 1 ∧ A.iAdd i 1 ≤ all.length ∧ b' = (all.take (A.iAdd i 1).toNat).all fun L => decide (cx ∈ L) := fun b' h => by
    rw [his, htk2]; exact ⟨by omega, by omega, h⟩
  conv => cbv
  refine ⟨draw_intro hA (by kernel_rfl), ?_⟩
  cases b with
  | false =>
    conv => cbv
    exact ⟨hir, hR3 (A.iAdd i 1, false) _ (by (conv => cbv); exact wk_sl (by repeat (first | refine leL_same ?_ | refine leL_any ?_ | exact leL_nil))) (hnx _ rfl) him⟩
  | true =>
    conv => cbv
    refine idx_CellL hA hys hi0 hi (fun z v hz hv => ?_)
    rw [hax] at hz
    cases hz
    have hhas := ref20_has ax cx hv
    conv => cbv
    refine hC2 ?_
    conv => cbv
    refine idx_Cell hA hcv hk0 hk (fun z hz => ?_)
    rw [hcx] at hz
    cases hz
    generalize decide (cx ∈ ax) = d at hhas hnx
    obtain ⟨c1, c2, c3⟩ := cx
    conv => cbv
    refine call_intro hA hhas ?_
    conv => cbv
    exact ⟨hir, hR3 (A.iAdd i 1, d) _ (by (conv => cbv); exact wk_sl (by repeat (first | refine leL_same ?_ | refine leL_any ?_ | exact leL_nil))) (hnx _ (by simp)) him⟩
end Go.Abs
