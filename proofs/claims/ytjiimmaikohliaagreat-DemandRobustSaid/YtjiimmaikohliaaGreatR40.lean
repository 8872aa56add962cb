/-
  References: ref20.sum, Add, Interval.
-/
import Derived.Test.YtjiimmaikohliaaGreatR39
set_option linter.unusedVariables false
set_option linter.unusedSimpArgs false
namespace Go.Abs
open Go.RowKit Go.Proofs

theorem lookU_add (es : List (Cell × Int)) (u : Use) (c : Cell) : (lookM (addU es u) c).getD 0 = (lookM es c).getD 0 + if u.Cell = c then u.Places else 0 := by
  unfold addU
  rw [lookM_put]
  by_cases h : c = u.Cell
  · subst h; simp
  · rw [if_neg h, if_neg (fun e => h e.symm)]; simp
/-- The sum of a cell's places, of a list of uses. -/
def sumC (us : List Use) (c : Cell) : Int := (lookM (sumU us) c).getD 0
theorem sumC_snoc (us : List Use) (u : Use) (c : Cell) : sumC (us ++ [u]) c = sumC us c + if u.Cell = c then u.Places else 0 := by
  unfold sumC
  rw [sumU_snoc, lookU_add]
theorem take_flat_sub {α : Type} (l : List (List α)) (n : Nat) : (l.take n).flatten.Sublist l.flatten := by
  conv => rhs; rw [← List.take_append_drop n l, List.flatten_append]
  exact List.sublist_append_left _ _
theorem sumC_nil (c : Cell) : sumC [] c = 0 := rfl
theorem sumC_le {us : List Use} (h : ∀ u ∈ us, useOk u = true) (c : Cell) : 0 ≤ sumC us c ∧ sumC us c ≤ 4096 * (us.length : Int) := by
  unfold sumC
  cases hl : lookM (sumU us) c with
  | none => simp only [Option.getD_none]; omega
  | some v => exact sumU_le h _ (lookM_some_mem hl)
theorem keys_addU (es : List (Cell × Int)) (u : Use) (c : Cell) : c ∈ (addU es u).map (·.1) ↔ c ∈ es.map (·.1) ∨ c = u.Cell := by
  unfold addU
  rw [putM_keys]
  split
  · rename_i h
    constructor
    · exact .inl
    · rintro (h2 | rfl)
      · exact h2
      · exact hasM_iff.1 h
  · rw [List.mem_append, List.mem_singleton]
theorem keys_sumU (us : List Use) : ∀ c, c ∈ (sumU us).map (·.1) ↔ c ∈ us.map (·.Cell) := by
  unfold sumU
  suffices h : ∀ (us : List Use) (es : List (Cell × Int)) (c : Cell), c ∈ (us.foldl addU es).map (·.1) ↔ c ∈ es.map (·.1) ∨ c ∈ us.map (·.Cell) by
    intro c; rw [h us [] c]; simp
  intro us
  induction us with
  | nil => intro es c; simp
  | cons u us ih =>
    intro es c
    rw [List.foldl_cons, ih, keys_addU, List.map_cons, List.mem_cons, or_assoc]
theorem add_plain (us : List Use) : (putsC [] (us.map (·.Cell))) = sortC ((sumU us).map (·.1)) := puts_sortC (sumU_nod us) fun c => (keys_sumU us c).symm

theorem useOk_of {ls : List (List Use)} (h : ls.any badB = false) : ∀ u ∈ ls.flatten, useOk u = true := fun u hu => by
  obtain ⟨l, hl, hul⟩ := List.mem_flatten.1 hu
  have := List.any_eq_false.1 h l hl
  exact (badB_false.1 (by simpa using this)).1 u hul

set_option maxRecDepth 40000 in
set_option maxHeartbeats 4000000 in
theorem ref20_sum (ls : List (List Use)) (c : Cell) (hok : ∀ u ∈ ls.flatten, useOk u = true) (hf : ls.flatten.length ≤ 1000000) {xs : List PV} (hx : xs = encUseLs ls) : CallsPV Tryz.prog 41 [.list 1 xs, encCell c] (.int .i64 (sumC ls.flatten c)) := by
  refine callsPV_by (clo := fun _ => false) (rows := false) env_ok Tryz.func41 rfl (enters_of Tryz.func41 (by kernel_rfl) rfl) (fun A q P Y hr hA hq => ?_)
  have hxl : xs.length = ls.length := by rw [hx]; simp [encUseLs]
  have hlen : ls.length ≤ 9223372036854775807 := by have := (hr.mem (p := .list 1 xs) (by simp)).len; omega
  have hel : ∀ l ∈ ls, l.length ≤ 1000000 ∧ ∀ u ∈ l, useOk u = true := fun l hl => by
    refine ⟨?_, fun u hu => hok u (List.mem_flatten.2 ⟨l, hl, hu⟩)⟩
    have := (List.sublist_flatten_of_mem hl).length_le
    omega
  obtain ⟨c1, c2, c3⟩ := c
  conv => cbv
  refine loop_set hA (fun (z : Int × Int) s => (s.put (some 6) (.val (.int .i64 z.1))).put (some 5) (.val (.int .i64 z.2))) (fun z => 0 ≤ z.1 ∧ z.1 ≤ ls.length ∧ z.2 = sumC (ls.take z.1.toNat).flatten ⟨c1, c2, c3⟩) (fun z => (ls.length - z.1).toNat) (0, 0) ?_ ?_ ?_
  · conv => cbv
    exact wk_sl (by repeat (first | refine leL_same ?_ | refine leL_any ?_ | exact leL_nil))
  · exact ⟨Int.le_refl _, by omega, rfl⟩
  rintro R ⟨i, n⟩ ⟨hi0, hi1, hn⟩ hR
  simp only at hi0 hi1 hn
  conv => cbv
  split
  rotate_left
  · rename_i hc
    have hge : (ls.length : Int) ≤ i := ltF' hA rfl (lenI hA hxl) hc
    rw [List.take_of_length_le (by omega)] at hn
    conv => cbv
    rw [← hq, hn]
  rename_i hc
  have hi : i < ls.length := ltT' hA rfl (lenI hA hxl) hc
  have his : A.iAdd i 1 = i + 1 := addI hA _ _
  have hir : A.inR (A.iAdd i 1) := inR' hA his (by unfold inI64; omega)
  have hax := List.getElem?_eq_getElem (show i.toNat < ls.length by omega)
  obtain ⟨ax, hax'⟩ : ∃ x, x = ls[i.toNat]'(by omega) := ⟨_, rfl⟩
  rw [← hax'] at hax
  clear hax'
  obtain ⟨haxl, haxo⟩ := hel ax (List.mem_of_getElem? hax)
  have htk := take_flat hi0 hax
  have hPl : (ls.take i.toNat).flatten.length ≤ 1000000 ∧ ∀ u ∈ (ls.take i.toNat).flatten, useOk u = true := by
    have hs : (ls.take i.toNat).flatten.Sublist ls.flatten := take_flat_sub _ _
    exact ⟨Nat.le_trans hs.length_le hf, fun u hu => hok u (hs.subset hu)⟩
  generalize (ls.take i.toNat).flatten = P0 at hn htk hPl
  conv => cbv
  refine loop_set hA (fun (z : Int × Int) s => (s.put (some 7) (.val (.int .i64 z.1))).put (some 5) (.val (.int .i64 z.2))) (fun z => 0 ≤ z.1 ∧ z.1 ≤ ax.length ∧ z.2 = sumC (P0 ++ ax.take z.1.toNat) ⟨c1, c2, c3⟩) (fun z => (ax.length - z.1).toNat) (0, n) ?_ ?_ ?_
  · conv => cbv
    exact wk_sl (by repeat (first | refine leL_same ?_ | refine leL_any ?_ | exact leL_nil))
  · exact ⟨Int.le_refl _, by omega, by show n = _; rw [hn]; simp⟩
  rintro R3 ⟨k, m⟩ ⟨hk0, hk1, hm⟩ hR3
  simp only at hk0 hk1 hm
  conv => cbv
  refine idx_UseL hA hx hi0 hi (fun z v hz hv => ?_)
  rw [hax] at hz
  cases hz
  have hvl : v.length = ax.length := by rw [hv, encUses_len]
  conv => cbv
  split
  rotate_left
  · rename_i hc
    have hge : (ax.length : Int) ≤ k := ltF' hA rfl (lenI hA hvl) hc
    rw [List.take_of_length_le (by omega)] at hm
    conv => cbv
    refine ⟨hir, hR (A.iAdd i 1, m) _ ?_ ?_ ?_⟩
    · conv => cbv
      exact wk_sl (by repeat (first | refine leL_same ?_ | refine leL_any ?_ | exact leL_nil))
    · rw [his]
      exact ⟨by show 0 ≤ i + 1; omega, by show i + 1 ≤ _; omega, by show m = _; rw [hm, htk]⟩
    · rw [his]; simp only; omega
  rename_i hc
  have hk : k < ax.length := ltT' hA rfl (lenI hA hvl) hc
  have hks' : A.iAdd k 1 = k + 1 := addI hA _ _
  have hkr : A.inR (A.iAdd k 1) := inR' hA hks' (by unfold inI64; omega)
  have hkm : (ax.length - A.iAdd k 1).toNat < (ax.length - k).toNat := by rw [hks']; omega
  conv => cbv
  refine ⟨draw_intro hA (by kernel_rfl), ?_⟩
  refine idx_UseL hA hx hi0 hi (fun z w hz hw => ?_)
  rw [hax] at hz
  cases hz
  have hvw : w = v := by rw [hw, hv]
  subst hvw
  conv => cbv
  refine idx_Use hA hv hk0 hk (fun x hx0 => ?_)
  have htk2 := take_snoc' hk0 hx0
  have hsum : sumC (P0 ++ ax.take (k + 1).toNat) ⟨c1, c2, c3⟩ = m + if x.Cell = ⟨c1, c2, c3⟩ then x.Places else 0 := by
    rw [htk2, ← List.append_assoc, sumC_snoc, hm]
  have hux := haxo x (List.mem_of_getElem? hx0)
  have hmb := sumC_le (us := P0 ++ ax.take k.toNat) (fun u hu => by
    rcases List.mem_append.1 hu with h | h
    · exact hPl.2 u h
    · exact haxo u (List.mem_of_mem_take h)) ⟨c1, c2, c3⟩
  rw [← hm, List.length_append, List.length_take] at hmb
  have hnx : ∀ m', m' = (m + if x.Cell = ⟨c1, c2, c3⟩ then x.Places else 0) → 0 ≤ A.iAdd k 1 ∧ A.iAdd k 1 ≤ ax.length ∧ m' = sumC (P0 ++ ax.take (A.iAdd k 1).toNat) ⟨c1, c2, c3⟩ := fun m' h => by
    rw [hks', hsum]; exact ⟨by omega, by omega, h⟩
  have hxx := hx0
  obtain ⟨⟨x1, x2, x3⟩, x4⟩ := x
  simp only [useOk, Bool.and_eq_true, decide_eq_true_eq] at hux
  conv => cbv
  split
  · rename_i hc
    have he : (⟨x1, x2, x3⟩ : Cell) = ⟨c1, c2, c3⟩ := by
      subst hA
      simp [stdOps] at hc
      rw [hc.1, hc.2.1, hc.2.2]
    have hma : A.iAdd m x4 = m + x4 := addI hA _ _
    conv => cbv
    refine idx_UseL hA hx hi0 hi (fun z w2 hz hw2 => ?_)
    rw [hax] at hz
    cases hz
    have hvw : w2 = w := by rw [hw2, hv]
    subst hvw
    conv => cbv
    refine idx_Use hA hv hk0 hk (fun z hz => ?_)
    rw [hxx] at hz
    cases hz
    conv => cbv
    refine ⟨inR' hA hma (by unfold inI64; omega), hkr, hR3 (A.iAdd k 1, A.iAdd m x4) _ (by (conv => cbv); exact wk_sl (by repeat (first | refine leL_same ?_ | refine leL_any ?_ | exact leL_nil))) (hnx _ (by rw [hma, if_pos he])) hkm⟩
  · rename_i hc
    have he : (⟨x1, x2, x3⟩ : Cell) ≠ ⟨c1, c2, c3⟩ := by
      rintro h
      cases h
      subst hA
      simp [stdOps] at hc
    conv => cbv
    exact ⟨hkr, hR3 (A.iAdd k 1, m) _ (by (conv => cbv); exact wk_sl (by repeat (first | refine leL_same ?_ | refine leL_any ?_ | exact leL_nil))) (hnx _ (by rw [if_neg he]; simp)) hkm⟩

theorem ref20_Interval (l1 l2 : List (List Use)) (c : Cell) {xs ys : List PV} (hx : xs = encUseLs l1) (hy : ys = encUseLs l2) (hf1 : l1.flatten.length ≤ 1000000) (hf2 : l2.flatten.length ≤ 1000000) :
    CallsPV Tryz.prog 21 [.list 1 xs, .list 1 ys, encCell c] (intR l1 l2 c) := by
  refine callsPV_by (clo := fun _ => false) (rows := false) env_ok Tryz.func21 rfl (enters_of Tryz.func21 (by kernel_rfl) rfl) (fun A q P Y hr hA hq => ?_)
  have h1 := ref20_formed l1 hx
  have h2 := ref20_formed l2 hy
  have k1 := fun h => ref20_sum l1 c (useOk_of h) hf1 hx
  have k2 := fun h => ref20_sum l2 c (useOk_of h) hf2 hy
  unfold intR at hq
  have e1 : sumAt l1 c = sumC l1.flatten c := rfl
  have e2 : sumAt l2 c = sumC l2.flatten c := rfl
  rw [e1, e2] at hq
  generalize sumC l1.flatten c = n1 at k1 hq
  generalize sumC l2.flatten c = n2 at k2 hq
  clear e1 e2
  generalize l1.any badB = b1 at h1 k1 hq
  generalize l2.any badB = b2 at h2 k2 hq
  obtain ⟨c1, c2, c3⟩ := c
  cases b1 with
  | true =>
    have h1' : CallsPV Tryz.prog 40 [.list 1 xs] (.bool false) := h1
    simp only [Bool.true_or, if_true] at hq
    conv => cbv
    refine call_intro hA (h1') ?_
    conv => cbv
    split
    rotate_left
    · rename_i hc
      cases ((nF hA hc))
    conv => cbv
    exact hq
  | false =>
    have h1' : CallsPV Tryz.prog 40 [.list 1 xs] (.bool true) := h1
    cases b2 with
    | true =>
      have h2' : CallsPV Tryz.prog 40 [.list 1 ys] (.bool false) := h2
      simp only [Bool.or_true, if_true] at hq
      conv => cbv
      refine call_intro hA (h1') ?_
      conv => cbv
      split
      · rename_i hc
        cases ((nT hA hc))
      conv => cbv
      refine call_intro hA (h2') ?_
      conv => cbv
      split
      rotate_left
      · rename_i hc
        cases ((nF hA hc))
      conv => cbv
      exact hq
    | false =>
      have h2' : CallsPV Tryz.prog 40 [.list 1 ys] (.bool true) := h2
      simp only [Bool.or_self, Bool.false_eq_true, if_false] at hq
      have k1 := k1 rfl
      have k2 := k2 rfl
      conv => cbv
      refine call_intro hA (h1') ?_
      conv => cbv
      split
      · rename_i hc
        cases ((nT hA hc))
      conv => cbv
      refine call_intro hA (h2') ?_
      conv => cbv
      split
      · rename_i hc
        cases ((nT hA hc))
      conv => cbv
      refine ⟨draw_intro hA (by kernel_rfl), ?_⟩
      refine call_intro hA (k1) ?_
      conv => cbv
      refine call_intro hA (k2) ?_
      conv => cbv
      exact hq
end Go.Abs
