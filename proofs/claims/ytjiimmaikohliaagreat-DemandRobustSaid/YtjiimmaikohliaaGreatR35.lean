/-
  References: ref20.Uses, Sure.
-/
import Derived.Test.YtjiimmaikohliaaGreatR34
set_option linter.unusedVariables false
set_option linter.unusedSimpArgs false
namespace Go.Abs
open Go.RowKit Go.Proofs

theorem mem_cellsR {t : Tables} {s : List Change} {p : Path} {c : Cell} : c ∈ cellsR t s p ↔ c ∈ pathCells t s p := by
  unfold cellsR; rw [mem_putsC]; simp
theorem cellsR_sorted (t : Tables) (s : List Change) (p : Path) : (cellsR t s p).Pairwise cellLt := putsC_sorted List.Pairwise.nil
theorem mem_allR {t : Tables} {s : List Change} {l : List Path} {c : Cell} : c ∈ (allR t s l).flatten ↔ c ∈ (l.map (pathCells t s)).flatten := by
  simp only [allR, List.mem_flatten, List.mem_map]
  constructor
  · rintro ⟨_, ⟨p, hp, rfl⟩, hc⟩; exact ⟨_, ⟨p, hp, rfl⟩, mem_cellsR.1 hc⟩
  · rintro ⟨_, ⟨p, hp, rfl⟩, hc⟩; exact ⟨_, ⟨p, hp, rfl⟩, mem_cellsR.2 hc⟩

theorem leastNodup (css : List (List Cell)) (many : Int) : (css.flatten.eraseDups.filter fun c => decide (many ≤ (cntC css c : Int))).Nodup := List.Nodup.sublist List.filter_sublist (nodup_eraseDups _ _ (Nat.le_refl _))
theorem mem_least {css : List (List Cell)} {many : Int} {c : Cell} : c ∈ (css.flatten.eraseDups.filter fun c => decide (many ≤ (cntC css c : Int))) ↔ c ∈ css.flatten ∧ many ≤ (cntC css c : Int) := by
  rw [List.mem_filter, List.mem_eraseDups, decide_eq_true_eq]
theorem uses_plain (t : Tables) (s : List Change) (l : List Path) : putsC [] (allR t s l).flatten = leastC (l.map (pathCells t s)) 1 := by
  unfold leastC
  refine puts_sortC (leastNodup _ _) fun c => ?_
  rw [mem_least, mem_allR]
  refine ⟨fun h => ⟨h, ?_⟩, fun h => h.1⟩
  have := cntC_pos.2 h
  omega
theorem cntC_all {css : List (List Cell)} {c : Cell} : (css.length : Int) ≤ (cntC css c : Int) ↔ ∀ L ∈ css, c ∈ L := by
  have h1 := cntC_le css c
  unfold cntC at *
  constructor
  · intro h
    have h2 : (css.filter fun l => decide (c ∈ l)).length = css.length := by omega
    rw [List.length_filter_eq_length_iff] at h2
    intro L hL
    simpa using h2 L hL
  · intro h
    have : (css.filter fun l => decide (c ∈ l)) = css := List.filter_eq_self.2 fun L hL => by simpa using h L hL
    rw [this]
    omega
theorem sure_plain (t : Tables) (s : List Change) (p : Path) (l : List Path) : (cellsR t s p).filter (fun c => (allR t s (p :: l)).all fun L => decide (c ∈ L)) = leastC ((p :: l).map (pathCells t s)) (p :: l).length := by
  unfold leastC
  symm
  have hs : ((cellsR t s p).filter fun c => (allR t s (p :: l)).all fun L => decide (c ∈ L)).Pairwise cellLt := (cellsR_sorted t s p).sublist List.filter_sublist
  refine sortC_eq ?_ hs
  refine (List.perm_ext_iff_of_nodup (leastNodup _ _) (sorted_nodup hs)).2 fun c => ?_
  have hlen : ((p :: l).length : Int) = (((p :: l).map (pathCells t s)).length : Int) := by rw [List.length_map]
  rw [mem_least, hlen, cntC_all, List.mem_filter, List.all_eq_true]
  simp only [allR, List.mem_map, decide_eq_true_eq]
  constructor
  · rintro ⟨_, h⟩
    refine ⟨mem_cellsR.2 (h _ ⟨p, by simp, rfl⟩), ?_⟩
    rintro L ⟨q, hq, rfl⟩
    exact mem_cellsR.2 (h _ ⟨q, hq, rfl⟩)
  · rintro ⟨h1, h2⟩
    refine ⟨List.mem_flatten.2 ⟨_, List.mem_map.2 ⟨p, by simp, rfl⟩, mem_cellsR.1 h1⟩, ?_⟩
    rintro L ⟨q, hq, rfl⟩
    exact mem_cellsR.1 (h2 _ ⟨q, hq, rfl⟩)

theorem allR_len {t : Tables} {s : List Change} {cl : Int} {l : List Path} (h : cntErr t s cl l = 0) : ∀ L ∈ allR t s l, L.length ≤ 14400 := by
  intro L hL
  obtain ⟨p, hp, rfl⟩ := List.mem_map.1 hL
  have h1 : stErr t l = 0 := by
    unfold cntErr at h
    split at h
    · rename_i h1; exact absurd h h1
    · split at h
      · cases h
      · exact h
  have h2 := pathCells_len (s := s) (stErr_mem h1 p hp)
  have h3 := putsC_len (L := pathCells t s p) []
  unfold cellsR
  simp at h3
  omega
theorem flat_le {α : Type} {l : List (List α)} {n : Nat} (h : ∀ L ∈ l, L.length ≤ n) : l.flatten.length ≤ l.length * n := by
  induction l with
  | nil => simp
  | cons x r ih =>
    rw [List.flatten_cons, List.length_append, List.length_cons, Nat.add_mul, Nat.one_mul]
    have := ih fun L hL => h L (by simp [hL])
    have := h x (by simp)
    omega

theorem take_flat {α : Type} {l : List (List α)} {i : Int} {x : List α} (h0 : 0 ≤ i) (hx : l[i.toNat]? = some x) : (l.take (i + 1).toNat).flatten = (l.take i.toNat).flatten ++ x := by
  rw [take_snoc' h0 hx, List.flatten_append]; simp

set_option maxRecDepth 40000 in
set_option maxHeartbeats 4000000 in
theorem ref20_Uses (t : Tables) (s : List Change) (cl : Int) (l : List Path) {xs : List PV} (hx : xs = encPaths l) (hlen : l.length ≤ 60) :
    CallsPV Tryz.prog 13 [encTables t, encScheme s, .int .i64 cl, .list 2 xs] (leastR t s cl l 1) := by
  refine callsPV_by (clo := fun _ => false) (rows := false) env_ok Tryz.func13 rfl (enters_of Tryz.func13 (by kernel_rfl) rfl) (fun A q P Y hr hA hq => ?_)
  have hall := ref20_cells t s cl l (by omega) hx
  have hal := allR_len (t := t) (s := s) (cl := cl) (l := l)
  have hlr : (allR t s l).length = l.length := by simp [allR]
  have hup := uses_plain t s l
  have hclk : cntErr t s cl l = 0 → 0 ≤ cl ∧ cl < t.Kinds.length := fun h => by
    unfold cntErr at h
    split at h
    · rename_i h1; exact absurd h h1
    · split at h
      · cases h
      · omega
  unfold cellsLRes at hall
  unfold leastR leastU at hq
  rw [← hup] at hq
  clear hup
  generalize cntErr t s cl l = e at hall hq hal hclk
  generalize allR t s l = all at hall hq hal hlr
  have hpl : ∀ k, t.Kinds[cl.toNat]? = some k → placesC t cl = k.Places := fun k h => by unfold placesC; rw [h]
  generalize placesC t cl = pl at hq hpl
  obtain ⟨ys, hys⟩ : ∃ ys, ys = encCellLs all := ⟨_, rfl⟩
  have hyl : ys.length = all.length := by rw [hys]; simp [encCellLs]
  rw [← hys] at hall
  obtain ⟨ss, hss⟩ : ∃ ss, ss = encSectors t.Sectors := ⟨_, rfl⟩
  obtain ⟨cs, hcs⟩ : ∃ cs, cs = encConfigs t.Configs := ⟨_, rfl⟩
  obtain ⟨ws, hws⟩ : ∃ ws, ws = encWays t.Ways := ⟨_, rfl⟩
  obtain ⟨ms, hms⟩ : ∃ ms, ms = encIntLs t.Modes := ⟨_, rfl⟩
  obtain ⟨ks, hks⟩ : ∃ ks, ks = encKinds t.Kinds := ⟨_, rfl⟩
  obtain ⟨nv, hnv⟩ : ∃ nv, nv = t.Volumes := ⟨_, rfl⟩
  have htab : encTables t = .agg [.int .i64 nv, .list 5 ss, .list 3 cs, .list 3 ws, .list 1 ms, .list 6 ks] := by rw [encTables_eq t hss hcs hws hms hks, hnv]
  rw [htab] at hall ⊢
  have hkl : ks.length = t.Kinds.length := by rw [hks]; simp [encKinds]
  obtain ⟨sc, hsc⟩ : ∃ sc, sc = encChanges s := ⟨_, rfl⟩
  rw [encScheme_eq hsc] at hall ⊢
  by_cases he : e = 0
  rotate_left
  · rw [if_neg he] at hall
    rw [if_pos he] at hq
    conv => cbv
    refine call_intro hA (hall) ?_
    conv => cbv
    split
    rotate_left
    · rename_i hc
      cases (he (neF hA hc))
    conv => cbv
    exact hq
  rw [if_pos he] at hall
  rw [if_neg (by simp [he])] at hq
  subst he
  have hal := hal rfl
  obtain ⟨hcl0, hcl1⟩ := hclk rfl
  have hfl := flat_le hal
  conv => cbv
  refine call_intro hA (hall) ?_
  conv => cbv
  split
  · rename_i hc
    cases ((neT hA hc rfl))
  conv => cbv
  refine loop_set hA (fun (z : Int × List PV) s => (s.put (some 13) (.val (.int .i64 z.1))).put (some 12) (.val (.list 3 z.2))) (fun z => 0 ≤ z.1 ∧ z.1 ≤ all.length ∧ z.2 = encCells (putsC [] (all.take z.1.toNat).flatten)) (fun z => (all.length - z.1).toNat) (0, []) ?_ ?_ ?_
  · (conv => cbv)
    exact wk_sl (by repeat (first | refine leL_same ?_ | refine leL_any ?_ | refine leL_nl ?_ | exact leL_nil))
  · exact ⟨Int.le_refl _, by omega, by simp [putsC, encCells]⟩
  rintro R2 ⟨i, M⟩ ⟨hi0, hi1, hM⟩ hR2
  simp only at hi0 hi1 hM
  conv => cbv
  split
  rotate_left
  · rename_i hc
    have hge : (all.length : Int) ≤ i := ltF' hA rfl (lenI hA hyl) hc
    rw [List.take_of_length_le (by omega)] at hM
    have hul : (putsC [] all.flatten).length ≤ 1000000 := by
      have h1 := putsC_len (L := all.flatten) []
      rw [List.length_nil, Nat.zero_add] at h1
      omega
    have hus := ref20_uses (putsC [] all.flatten) pl hul hM
    generalize encUses ((putsC [] all.flatten).map fun c => ⟨c, pl⟩) = us at hq hus
    conv => cbv
    refine idx_Kind hA hks hcl0 hcl1 (fun kd kv hkd hkv => ?_)
    have hplk := hpl kd hkd
    obtain ⟨kd1, kd2, kd3, kd4, kd5, kd6⟩ := kd
    simp only at hplk
    subst hplk
    conv => cbv
    refine call_intro hA (hus) ?_
    conv => cbv
    exact hq
  rename_i hc
  have hi : i < all.length := ltT' hA rfl (lenI hA hyl) hc
  have his : A.iAdd i 1 = i + 1 := addI hA _ _
  have hir : A.inR (A.iAdd i 1) := inR' hA his (by unfold inI64; omega)
  have hax := List.getElem?_eq_getElem (show i.toNat < all.length by omega)
  obtain ⟨ax, hax'⟩ : ∃ x, x = all[i.toNat]'(by omega) := ⟨_, rfl⟩
  rw [← hax'] at hax
  clear hax'
  have haxl := hal ax (List.mem_of_getElem? hax)
  have htk := take_flat hi0 hax
  have hPl : (all.take i.toNat).flatten.length ≤ 60 * 14400 := by
    have := flat_le (l := all.take i.toNat) (n := 14400) fun L hL => hal L (List.mem_of_mem_take hL)
    rw [List.length_take] at this
    omega
  generalize (all.take i.toNat).flatten = P0 at hM htk hPl
  conv => cbv
  refine loop_set hA (fun (z : Int × List PV) s => (s.put (some 14) (.val (.int .i64 z.1))).put (some 12) (.val (.list 3 z.2))) (fun z => 0 ≤ z.1 ∧ z.1 ≤ ax.length ∧ z.2 = encCells (putsC [] (P0 ++ ax.take z.1.toNat))) (fun z => (ax.length - z.1).toNat) (0, M) ?_ ?_ ?_
  · conv => cbv
    exact wk_sl (by repeat (first | refine leL_same ?_ | refine leL_any ?_ | exact leL_nil))
  · exact ⟨Int.le_refl _, by omega, by show M = _; rw [hM]; simp⟩
  rintro R3 ⟨k, N⟩ ⟨hk0, hk1, hN⟩ hR3
  simp only at hk0 hk1 hN
  conv => cbv
  refine idx_CellL hA hys hi0 hi (fun z v hz hv => ?_)
  rw [hax] at hz
  cases hz
  have hvl : v.length = ax.length := by rw [hv, encCells_len]
  conv => cbv
  split
  rotate_left
  · rename_i hc
    have hge : (ax.length : Int) ≤ k := ltF' hA rfl (lenI hA hvl) hc
    rw [List.take_of_length_le (by omega)] at hN
    conv => cbv
    refine ⟨hir, hR2 (A.iAdd i 1, N) _ ?_ ?_ ?_⟩
    · conv => cbv
      exact wk_sl (by repeat (first | refine leL_same ?_ | refine leL_any ?_ | exact leL_nil))
    · rw [his]
      exact ⟨by show 0 ≤ i + 1; omega, by show i + 1 ≤ _; omega, by show N = _; rw [hN, htk]⟩
    · rw [his]; simp only; omega
  rename_i hc
  have hk : k < ax.length := ltT' hA rfl (lenI hA hvl) hc
  have hks' : A.iAdd k 1 = k + 1 := addI hA _ _
  have hkr : A.inR (A.iAdd k 1) := inR' hA hks' (by unfold inI64; omega)
  conv => cbv
  refine idx_CellL hA hys hi0 hi (fun z w hz hw => ?_)
  rw [hax] at hz
  cases hz
  have hvw : w = v := by rw [hw, hv]
  subst hvw
  conv => cbv
  refine idx_Cell hA hv hk0 hk (fun c hc => ?_)
  have htk2 := take_snoc' hk0 hc
  have hNl : (putsC [] (P0 ++ ax.take k.toNat)).length ≤ 1000000 := by
    have h1 := putsC_len (L := P0 ++ ax.take k.toNat) []
    rw [List.length_append, List.length_take, List.length_nil, Nat.zero_add] at h1
    omega
  have hput := ref20_put (putsC [] (P0 ++ ax.take k.toNat)) c hNl hN
  rw [← putsC_snoc, List.append_assoc, ← htk2] at hput
  obtain ⟨N2, hN2⟩ : ∃ N2, N2 = encCells (putsC [] (P0 ++ ax.take (k + 1).toNat)) := ⟨_, rfl⟩
  rw [← hN2] at hput
  obtain ⟨c1, c2, c3⟩ := c
  conv => cbv
  refine call_intro hA hput ?_
  conv => cbv
  refine ⟨hkr, hR3 (A.iAdd k 1, N2) _ ?_ ?_ ?_⟩
  · conv => cbv
    exact wk_sl (by repeat (first | refine leL_same ?_ | refine leL_any ?_ | exact leL_nil))
  · rw [hks']
    exact ⟨by show 0 ≤ k + 1; omega, by show k + 1 ≤ _; omega, hN2⟩
  · rw [hks']; simp only; omega
end Go.Abs
