/-
  References: ref20.Add.
-/
import Derived.Test.YtjiimmaikohliaaGreatR40
set_option linter.unusedVariables false
set_option linter.unusedSimpArgs false
namespace Go.Abs
open Go.RowKit Go.Proofs

theorem take_flatC {l : List (List Use)} {i : Int} {x : List Use} (h0 : 0 ≤ i) (hx : l[i.toNat]? = some x) : ((l.take (i + 1).toNat).flatten.map fun u => u.Cell) = ((l.take i.toNat).flatten.map fun u => u.Cell) ++ x.map fun u => u.Cell := by
  rw [take_flat h0 hx, List.map_append]

set_option maxRecDepth 40000 in
set_option maxHeartbeats 4000000 in
theorem ref20_Add (ls : List (List Use)) {xs : List PV} (hx : xs = encUseLs ls) (hf : ls.flatten.length ≤ 1000000) : CallsPV Tryz.prog 19 [.list 1 xs] (addR ls) := by
  refine callsPV_by (clo := fun _ => false) (rows := false) env_ok Tryz.func19 rfl (enters_of Tryz.func19 (by kernel_rfl) rfl) (fun A q P Y hr hA hq => ?_)
  have hxl : xs.length = ls.length := by rw [hx]; simp [encUseLs]
  have hlen : ls.length ≤ 9223372036854775807 := by have := (hr.mem (p := .list 1 xs) (by simp)).len; omega
  have h1 := ref20_formed ls hx
  have k1 := fun h c => ref20_sum ls c (useOk_of h) hf hx
  have hel : ∀ l ∈ ls, l.length ≤ 1000000 := fun l hl => by
    have := (List.sublist_flatten_of_mem hl).length_le
    omega
  unfold addR at hq
  have hus : usesM (sumU ls.flatten) = (putsC [] (ls.flatten.map fun u => u.Cell)).map fun c => ⟨c, sumC ls.flatten c⟩ := by
    unfold usesM
    rw [show (putsC [] (ls.flatten.map fun u => u.Cell)) = sortC ((sumU ls.flatten).map fun p => p.1) from add_plain ls.flatten]
    rfl
  rw [hus] at hq
  clear hus
  generalize ls.any badB = b1 at h1 k1 hq
  cases b1 with
  | true =>
    have h1' : CallsPV Tryz.prog 40 [.list 1 xs] (.bool false) := h1
    simp only [if_true] at hq
    conv => cbv
    refine call_intro hA (h1') ?_
    conv => cbv
    split
    rotate_left
    · rename_i hc
      cases ((nF hA hc))
    conv => cbv
    exact hq
  | false => ?_
  have h1' : CallsPV Tryz.prog 40 [.list 1 xs] (.bool true) := h1
  have k1 := k1 rfl
  simp only [Bool.false_eq_true, if_false] at hq
  conv => cbv
  refine call_intro hA (h1') ?_
  conv => cbv
  split
  · rename_i hc
    cases ((nT hA hc))
  conv => cbv
  refine loop_set hA (fun (z : Int × List PV) s => (s.put (some 5) (.val (.int .i64 z.1))).put (some 4) (.val (.list 3 z.2))) (fun z => 0 ≤ z.1 ∧ z.1 ≤ ls.length ∧ z.2 = encCells (putsC [] ((ls.take z.1.toNat).flatten.map fun u => u.Cell))) (fun z => (ls.length - z.1).toNat) (0, []) ?_ ?_ ?_
  · (conv => cbv)
    exact wk_sl (by repeat (first | refine leL_same ?_ | refine leL_any ?_ | refine leL_nl ?_ | exact leL_nil))
  · exact ⟨Int.le_refl _, by omega, by simp [putsC, encCells]⟩
  rintro R2 ⟨i, M⟩ ⟨hi0, hi1, hM⟩ hR2
  simp only at hi0 hi1 hM
  conv => cbv
  split
  rotate_left
  · rename_i hc
    have hge : (ls.length : Int) ≤ i := ltF' hA rfl (lenI hA hxl) hc
    rw [List.take_of_length_le (by omega)] at hM
    have hCl : (putsC [] (ls.flatten.map fun u => u.Cell)).length ≤ 1000000 := by
      have h1 := putsC_len (L := ls.flatten.map fun u => u.Cell) []
      rw [List.length_nil, Nat.zero_add, List.length_map] at h1
      omega
    generalize putsC [] (ls.flatten.map fun u => u.Cell) = C at hM hq hCl
    have hMl : M.length = C.length := by rw [hM, encCells_len]
    conv => cbv
    refine loop_set hA (fun (z : Int × List PV) s => { (s.put (some 8) (.val (.int .i64 z.1))).put (some 7) (.own 0 4 z.2) with tk := [(A.nLen z.2, 55)] })
      (fun z => 0 ≤ z.1 ∧ z.1 ≤ C.length ∧ z.2 = encUses ((C.take z.1.toNat).map fun c => ⟨c, sumC ls.flatten c⟩)) (fun z => (C.length - z.1).toNat) (0, []) ?_ ?_ ?_
    · conv => cbv
      exact wk_own 7 0 4 [] _ rfl (.inr rfl) (by repeat (first | refine leL_same ?_ | refine leL_any ?_ | exact leL_nil)) (by subst hA; rfl)
    · exact ⟨Int.le_refl _, by omega, rfl⟩
    rintro R ⟨k, U⟩ ⟨hk0, hk1, hU⟩ hR
    simp only at hk0 hk1 hU
    conv => cbv
    split
    rotate_left
    · rename_i hc
      have hge : (C.length : Int) ≤ k := ltF' hA rfl (lenI hA hMl) hc
      rw [List.take_of_length_le (by omega)] at hU
      conv => cbv
      rw [← hq, hU]
    rename_i hc
    have hk : k < C.length := ltT' hA rfl (lenI hA hMl) hc
    have hks' : A.iAdd k 1 = k + 1 := addI hA _ _
    have hkr : A.inR (A.iAdd k 1) := inR' hA hks' (by unfold inI64; omega)
    conv => cbv
    refine ⟨draw_intro hA (by kernel_rfl), ?_⟩
    refine idx_Cell hA hM hk0 hk (fun c hcc => ?_)
    have htk := take_snoc' hk0 hcc
    have hcx := hcc
    have hcall := k1 c
    have hnext : A.lApp U [.agg [.bool c.Airport, .int .i64 c.Index, .int .i64 c.Minute, .int .i64 (sumC ls.flatten c)]] = encUses ((C.take (k + 1).toNat).map fun c => ⟨c, sumC ls.flatten c⟩) := by
      rw [htk]
      subst hA hU
      show encUses _ ++ _ = _
      simp [encUses, encUse]
    have hUl : U.length = k.toNat := by rw [hU]; simp [encUses]; omega
    have hroom : A.room (A.nLen (A.lApp U [.agg [.bool c.Airport, .int .i64 c.Index, .int .i64 c.Minute, .int .i64 (sumC ls.flatten c)]])) 32 := by
      subst hA
      show (U ++ [_]).length * (32 + 1) ≤ 140737488355328
      rw [List.length_append, List.length_singleton]
      omega
    have htk' : A.tkEq (A.nLen U) (A.nLen U) := by subst hA; rfl
    generalize sumC ls.flatten c = n at hcall hnext hroom
    obtain ⟨c1, c2, c3⟩ := c
    simp only at hnext hroom
    conv => cbv
    refine idx_Cell hA hM hk0 hk (fun z hz => ?_)
    rw [hcx] at hz
    cases hz
    conv => cbv
    refine call_intro hA (hcall) ?_
    conv => cbv
    refine ⟨⟨htk', hroom⟩, hkr, hR (A.iAdd k 1, A.lApp U [.agg [.bool c1, .int .i64 c2, .int .i64 c3, .int .i64 n]]) _ ?_ ?_ ?_⟩
    · conv => cbv
      exact wk_sl (by repeat (first | refine leL_same ?_ | refine leL_any ?_ | exact leL_nil))
    · rw [hks']; exact ⟨by show 0 ≤ k + 1; omega, by show k + 1 ≤ _; omega, hnext⟩
    · rw [hks']; simp only; omega
  rename_i hc
  have hi : i < ls.length := ltT' hA rfl (lenI hA hxl) hc
  have his : A.iAdd i 1 = i + 1 := addI hA _ _
  have hir : A.inR (A.iAdd i 1) := inR' hA his (by unfold inI64; omega)
  have hax := List.getElem?_eq_getElem (show i.toNat < ls.length by omega)
  obtain ⟨ax, hax'⟩ : ∃ x, x = ls[i.toNat]'(by omega) := ⟨_, rfl⟩
  rw [← hax'] at hax
  clear hax'
  have haxl := hel ax (List.mem_of_getElem? hax)
  have htk := take_flatC hi0 hax
  have hPl : ((ls.take i.toNat).flatten.map fun u => u.Cell).length + ax.length ≤ 1000000 := by
    have hs : (ls.take (i + 1).toNat).flatten.Sublist ls.flatten := take_flat_sub _ _
    have := hs.length_le
    rw [take_flat hi0 hax, List.length_append] at this
    rw [List.length_map]
    omega
  generalize ((ls.take i.toNat).flatten.map fun u => u.Cell) = P0 at hM htk hPl
  conv => cbv
  refine loop_set hA (fun (z : Int × List PV) s => (s.put (some 6) (.val (.int .i64 z.1))).put (some 4) (.val (.list 3 z.2))) (fun z => 0 ≤ z.1 ∧ z.1 ≤ ax.length ∧ z.2 = encCells (putsC [] (P0 ++ (ax.map fun u => u.Cell).take z.1.toNat))) (fun z => (ax.length - z.1).toNat) (0, M) ?_ ?_ ?_
  · conv => cbv
    exact wk_sl (by repeat (first | refine leL_same ?_ | refine leL_any ?_ | exact leL_nil))
  · exact ⟨Int.le_refl _, by omega, by show M = _; rw [hM]; simp⟩
  rintro R3 ⟨k, N⟩ ⟨hk0, hk1, hN⟩ hR3
  simp only at hk0 hk1 hN
  conv => cbv
  refine idx_UseL hA hx hi0 hi (fun z v hz hv => ?_)
  rw [hax] at hz
  cases hz
  have hvl : v.length = ax.length := by rw [hv, encUses_len]
  conv => cbv
  split
  rotate_left
  · rename_i hc
    have hge : (ax.length : Int) ≤ k := ltF' hA rfl (lenI hA hvl) hc
    rw [List.take_of_length_le (by rw [List.length_map]; omega)] at hN
    conv => cbv
    refine ⟨hir, hR2 (A.iAdd i 1, N) _ ?_ ?_ ?_⟩
    · conv => cbv
      exact wk_sl (by repeat (first | refine leL_same ?_ | refine leL_any ?_ | exact leL_nil))
    · rw [his]
      exact ⟨by show 0 ≤ i + 1; omega, by show i + 1 ≤ _; omega, by show N = _; rw [hN, htk]⟩
    · rw [his]; simp only; omega
  rename_i hc
  have hk : k < ax.length := ltT' hA rfl (lenI hA hvl) hc
  have hks' : A.iAdd k 1 = k + 1 := addI hA _ _
  have hkr : A.inR (A.iAdd k 1) := inR' hA hks' (by unfold inI64; omega)
  conv => cbv
  refine idx_UseL hA hx hi0 hi (fun z w hz hw => ?_)
  rw [hax] at hz
  cases hz
  have hvw : w = v := by rw [hw, hv]
  subst hvw
  conv => cbv
  refine idx_Use hA hv hk0 hk (fun u hu => ?_)
  have htk2 := take_snoc' (l := ax.map fun u => u.Cell) hk0 (x := u.Cell) (by rw [List.getElem?_map, hu]; rfl)
  have hNl : (putsC [] (P0 ++ (ax.map fun u => u.Cell).take k.toNat)).length ≤ 1000000 := by
    have h1 := putsC_len (L := P0 ++ (ax.map fun u => u.Cell).take k.toNat) []
    rw [List.length_append, List.length_take, List.length_map, List.length_nil, Nat.zero_add] at h1
    omega
  have hput := ref20_put (putsC [] (P0 ++ (ax.map fun u => u.Cell).take k.toNat)) u.Cell hNl hN
  rw [← putsC_snoc, List.append_assoc, ← htk2] at hput
  obtain ⟨N2, hN2⟩ : ∃ N2, N2 = encCells (putsC [] (P0 ++ (ax.map fun u => u.Cell).take (k + 1).toNat)) := ⟨_, rfl⟩
  rw [← hN2] at hput
  obtain ⟨⟨c1, c2, c3⟩, c4⟩ := u
  conv => cbv
  refine call_intro hA hput ?_
  conv => cbv
  refine ⟨hkr, hR3 (A.iAdd k 1, N2) _ ?_ ?_ ?_⟩
  · conv => cbv
    exact wk_sl (by repeat (first | refine leL_same ?_ | refine leL_any ?_ | exact leL_nil))
  · rw [hks']
    exact ⟨by show 0 ≤ k + 1; omega, by show k + 1 ≤ _; omega, hN2⟩
  · rw [hks']; simp only; omega
end Go.Abs
