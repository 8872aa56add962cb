/-
  The law's own (chapter 20): large, cells.
-/
import Derived.Test.YtjiimmaikohliaaGreatM31
set_option linter.unusedVariables false
set_option linter.unusedSimpArgs false
namespace Go.Abs
open Go.RowKit Go.Proofs

def largeB (us : List Use) : Bool := us.any fun u => decide (4096 < u.Places)
theorem law20_large (us : List Use) {xs : List PV} (hx : xs = encUses us) : CallsPV Tryz.prog 26 [.list 4 xs] (.bool (largeB us)) := by
  refine callsPV_by (clo := fun _ => false) (rows := false) env_ok Tryz.func26 rfl (enters_of Tryz.func26 (by kernel_rfl) rfl) (fun A q P Y hr hA hq => ?_)
  have hxl : xs.length = us.length := by rw [hx, encUses_len]
  have hlen : us.length ≤ 9223372036854775807 := by have := (hr.mem (p := .list 4 xs) (by simp)).len; omega
  have hyes : ∀ u ∈ us, 4096 < u.Places → PV.bool true = q := fun u hu h => by
    rw [← hq]; unfold largeB; rw [List.any_eq_true.2 ⟨u, hu, by simpa using h⟩]
  have hno : (∀ u ∈ us, u.Places ≤ 4096) → PV.bool false = q := fun h => by
    rw [← hq]; unfold largeB; rw [List.any_eq_false.2 (fun u hu => by have := h u hu; simp; omega)]
  clear hq
  conv => cbv
  refine loop_set hA (fun (i : Int) s => s.put (some 3) (.val (.int .i64 i))) (fun i => 0 ≤ i ∧ i ≤ (us.length : Int) ∧ (fun i => ∀ u ∈ us.take i.toNat, u.Places ≤ 4096) i) (fun i => ((us.length : Int) - i).toNat) 0 ?_ ?_ ?_
  · conv => cbv
    exact wk_sl (by repeat (first | refine leL_same ?_ | refine leL_any ?_ | exact leL_nil))
  · exact ⟨Int.le_refl _, by omega, by simp⟩
  rintro R i ⟨hi0, hi1, hi2⟩ hRi
  conv => cbv
  split
  ·   rename_i hc
      have hi : i < (us.length : Int) := ltT' hA rfl (lenI hA hxl) hc
      have his : A.iAdd i 1 = i + 1 := addI hA _ _
      have hir : A.inR (A.iAdd i 1) := inR' hA his (by unfold inI64; omega)
      have him : ((us.length : Int) - A.iAdd i 1).toNat < ((us.length : Int) - i).toNat := by rw [his]; omega
      have hin : (fun i => ∀ u ∈ us.take i.toNat, u.Places ≤ 4096) (i + 1) → 0 ≤ A.iAdd i 1 ∧ A.iAdd i 1 ≤ (us.length : Int) ∧ (fun i => ∀ u ∈ us.take i.toNat, u.Places ≤ 4096) (A.iAdd i 1) := fun h => by rw [his]; exact ⟨by omega, by omega, h⟩
      simp only at hin
      conv => cbv
      refine idx_Use hA hx hi0 hi (fun u hu => ?_)
      have ht := take_snoc' hi0 hu
      have hm := List.mem_of_getElem? hu
      obtain ⟨⟨u1, u2, u3⟩, u4⟩ := u
      conv => cbv
      split
      · rename_i hc
        have g := ltT hA hc
        conv => cbv
        exact hyes _ hm g
      · rename_i hc
        have g := ltF hA hc
        conv => cbv
        exact ⟨hir, hRi (A.iAdd i 1) _ (by (conv => cbv); exact wk_sl (by repeat (first | refine leL_same ?_ | refine leL_any ?_ | exact leL_nil))) (hin (mem_snoc ht hi2 g)) him⟩
  rename_i hc
  have hi : i = (us.length : Int) := by have := ltF' hA rfl (lenI hA hxl) hc; omega
  conv => cbv
  exact hno (take_all hi hi2)

/-- A set of cells, as a map. -/
def mapB (L : List Cell) : PV := .map (encCells L) (L.map fun _ => .bool true)
def setU (us : List Use) : List (Cell × Unit) := us.foldl (fun es u => putM es u.Cell ()) []
theorem setU_snoc (us : List Use) (u : Use) : setU (us ++ [u]) = putM (setU us) u.Cell () := by unfold setU; rw [List.foldl_append]; rfl
theorem setU_nod (us : List Use) : NodM (setU us) := by
  unfold setU
  suffices h : ∀ es : List (Cell × Unit), NodM es → NodM (us.foldl (fun es u => putM es u.Cell ()) es) from h [] (by simp [NodM])
  induction us with
  | nil => intro es h; exact h
  | cons u us ih => intro es h; exact ih _ (h.put _ _)
theorem keys_putU (es : List (Cell × Unit)) (u : Use) (c : Cell) : c ∈ (putM es u.Cell ()).map (·.1) ↔ c ∈ es.map (·.1) ∨ c = u.Cell := by
  rw [putM_keys]
  split
  · rename_i h
    constructor
    · exact .inl
    · rintro (h2 | rfl)
      · exact h2
      · exact hasM_iff.1 h
  · rw [List.mem_append, List.mem_singleton]
theorem setU_keys (us : List Use) (c : Cell) : c ∈ (setU us).map (·.1) ↔ c ∈ us.map (·.Cell) := by
  unfold setU
  suffices h : ∀ (us : List Use) (es : List (Cell × Unit)), c ∈ (us.foldl (fun es u => putM es u.Cell ()) es).map (·.1) ↔ c ∈ es.map (·.1) ∨ c ∈ us.map (·.Cell) by
    rw [h us []]; simp
  intro us
  induction us with
  | nil => intro es; simp
  | cons u us ih =>
    intro es
    rw [List.foldl_cons, ih, keys_putU, List.map_cons, List.mem_cons, or_assoc]
/-- The cells of uses, each once. -/
def cellsU (us : List Use) : List Cell := (us.map (·.Cell)).eraseDups
theorem cellsU_nod (us : List Use) : (cellsU us).Nodup := nodup_eraseDups _ _ (Nat.le_refl _)
theorem mem_cellsU {us : List Use} {c : Cell} : c ∈ cellsU us ↔ c ∈ us.map (·.Cell) := List.mem_eraseDups
theorem setU_perm (us : List Use) : ((setU us).map (·.1)).Perm (cellsU us) := by
  refine (List.perm_ext_iff_of_nodup (setU_nod us) (cellsU_nod us)).2 fun c => ?_
  rw [mem_cellsU]; exact setU_keys us c
theorem setU_zip (us : List Use) : (encM encCell (fun _ : Unit => PV.bool true) (setU us)).Perm ((encCells (cellsU us)).zip ((cellsU us).map fun _ => PV.bool true)) := by
  have h : encM encCell (fun _ : Unit => PV.bool true) (setU us) = ((setU us).map (·.1)).map fun c => (encCell c, PV.bool true) := by
    unfold encM; rw [List.map_map]; rfl
  have h2 : (encCells (cellsU us)).zip ((cellsU us).map fun _ => PV.bool true) = (cellsU us).map fun c => (encCell c, PV.bool true) := by
    unfold encCells; rw [List.zip_map']
  rw [h, h2]
  exact (setU_perm us).map _

set_option maxHeartbeats 1000000 in
theorem law20_cells (us : List Use) {xs : List PV} (hx : xs = encUses us) : CallsPV Tryz.prog 24 [.list 4 xs] (mapB (cellsU us)) := by
  refine callsPV_by (clo := fun n => n == 9000000) (rows := true) env_ok Tryz.func24 rfl (enters_of Tryz.func24 (by kernel_rfl) rfl) (fun A q P Y hr hA hq => ?_)
  have hxl : xs.length = us.length := by rw [hx, encUses_len]
  have hlen : us.length ≤ 9223372036854775807 := by have := (hr.mem (p := .list 4 xs) (by simp)).len; omega
  have hzp := setU_zip us
  unfold mapB at hq
  obtain ⟨KS, hKS⟩ : ∃ KS, KS = encCells (cellsU us) := ⟨_, rfl⟩
  obtain ⟨VS, hVS⟩ : ∃ VS, VS = (cellsU us).map fun _ => PV.bool true := ⟨_, rfl⟩
  have hKV : KS.length = VS.length := by rw [hKS, hVS]; simp [encCells]
  rw [← hKS, ← hVS] at hq hzp
  clear hKS hVS
  conv => cbv
  refine loop_set hA (fun (z : Int × List (PV × PV)) s => { s.put (some 4) (.val (.int .i64 z.1)) with ax := ⟨[.ents z.2 none], s.ax.yk⟩ })
    (fun z => 0 ≤ z.1 ∧ z.1 ≤ us.length ∧ z.2 = encM encCell (fun _ : Unit => PV.bool true) (setU (us.take z.1.toNat))) (fun z => (us.length - z.1).toNat) (0, []) ?_ ?_ ?_
  · conv => cbv
    exact wk_sl (by repeat (first | refine leL_same ?_ | refine leL_any ?_ | exact leL_nil))
  · exact ⟨Int.le_refl _, by omega, rfl⟩
  rintro R ⟨i, m⟩ ⟨hi0, hi1, hm⟩ hR
  simp only at hi0 hi1 hm
  conv => cbv
  split
  rotate_left
  · rename_i hc
    have hge : (us.length : Int) ≤ i := ltF' hA rfl (lenI hA hxl) hc
    rw [List.take_of_length_le (by omega)] at hm
    rw [← hm] at hzp
    conv => cbv
    refine ⟨_, Frz.map 0 m none KS VS _ _ _ _ rfl hzp hKV (Frz.refl _ _), ?_⟩
    conv => cbv
    exact hq
  rename_i hc
  have hi : i < us.length := ltT' hA rfl (lenI hA hxl) hc
  have his : A.iAdd i 1 = i + 1 := addI hA _ _
  have hir : A.inR (A.iAdd i 1) := inR' hA his (by unfold inI64; omega)
  conv => cbv
  refine idx_Use hA hx hi0 hi (fun u hu => ?_)
  have ht := take_snoc' hi0 hu
  have hkk : keysOk true [.bool, .int, .int] m (encCell u.Cell) := by rw [hm]; exact keysOk_Cell _ _
  have hpt : A.ePut m (encCell u.Cell) (.bool true) = encM encCell (fun _ : Unit => PV.bool true) (setU (us.take (i + 1).toNat)) := by
    rw [ht, setU_snoc, hm]
    subst hA
    exact putE_enc keq_Cell (f := fun _ : Unit => PV.bool true) _ _ ()
  obtain ⟨⟨u1, u2, u3⟩, u4⟩ := u
  conv => cbv
  refine ⟨⟨kOk_intro hA hkk, trivial⟩, hir, hR (A.iAdd i 1, A.ePut m (.agg [.bool u1, .int .i64 u2, .int .i64 u3]) (.bool true)) _ ?_ ?_ ?_⟩
  · conv => cbv
    exact wk_sl (by repeat (first | refine leL_same ?_ | refine leL_any ?_ | exact leL_nil))
  · rw [his]; exact ⟨by show 0 ≤ i + 1; omega, by show i + 1 ≤ _; omega, hpt⟩
  · rw [his]; simp only; omega
end Go.Abs
