/-
  Law DemandParts.
-/
import Derived.Test.YtjiimmaikohliaaGreatR42
set_option linter.unusedVariables false
set_option linter.unusedSimpArgs false
namespace Go.Abs
open Go.RowKit Go.Proofs

theorem cntErr_append (t : Tables) (s : List Change) (cl : Int) (l m : List Path) : cntErr t s cl (l ++ m) = if cntErr t s cl l ≠ 0 then cntErr t s cl l else cntErr t s cl m := by
  unfold cntErr
  split
  · rfl
  · split
    · rfl
    · by_cases h : stErr t l = 0
      · rw [stErr_append t _ _ h, if_neg (by simp [h])]
      · rw [if_pos h]
        have : ∀ l m : List Path, stErr t l ≠ 0 → stErr t (l ++ m) = stErr t l := fun l m h => by
          induction l with
          | nil => exact absurd rfl h
          | cons p r ih =>
            simp only [List.cons_append, stErr] at h ⊢
            split
            · rename_i h0; rw [if_pos h0] at h; exact ih h
            · rfl
        exact this l m h
/-- In which cells a flight may be, or is for sure. -/
def useSet (css : List (List Cell)) (many : Int) : List Cell := cellsU (leastU css many 0)
theorem leastU_cells (css : List (List Cell)) (many pl : Int) : (leastU css many pl).map (·.Cell) = leastC css many := by
  unfold leastU; rw [List.map_map]; exact List.map_id _
theorem cellsU_least (css : List (List Cell)) (many pl : Int) : cellsU (leastU css many pl) = useSet css many := by
  unfold useSet cellsU; rw [leastU_cells, leastU_cells]
theorem leastC_nodup (css : List (List Cell)) (many : Int) : (leastC css many).Nodup := (sortC_perm _).nodup_iff.2 (leastNodup css many)
theorem useSet_nodup (css : List (List Cell)) (many : Int) : (useSet css many).Nodup := cellsU_nod _
theorem mem_useSet {css : List (List Cell)} {many : Int} {c : Cell} : c ∈ useSet css many ↔ c ∈ css.flatten ∧ many ≤ (cntC css c : Int) := by
  unfold useSet
  rw [mem_cellsU, leastU_cells]
  unfold leastC
  rw [(sortC_perm _).mem_iff, mem_least]
theorem mem_uses {css : List (List Cell)} {c : Cell} : c ∈ useSet css 1 ↔ c ∈ css.flatten := by
  rw [mem_useSet]
  refine ⟨fun h => h.1, fun h => ⟨h, ?_⟩⟩
  have := cntC_pos.2 h
  omega
theorem mem_sure {css : List (List Cell)} (h0 : css ≠ []) {c : Cell} : c ∈ useSet css css.length ↔ ∀ L ∈ css, c ∈ L := by
  rw [mem_useSet, cntC_all]
  refine ⟨fun h => h.2, fun h => ⟨?_, h⟩⟩
  cases css with
  | nil => exact absurd rfl h0
  | cons L r => exact List.mem_flatten.2 ⟨L, by simp, h L (by simp)⟩
theorem useSet_len (css : List (List Cell)) (many pl : Int) : (useSet css many).length = (leastU css many pl).length := by
  have h1 : (useSet css many).Perm (leastC css many) := (List.perm_ext_iff_of_nodup (useSet_nodup _ _) (leastC_nodup _ _)).2 fun c => by
    unfold useSet; rw [mem_cellsU, leastU_cells]
  rw [h1.length_eq]
  unfold leastU
  rw [List.length_map]
theorem parts_uses (a b : List (List Cell)) (c : Cell) : c ∈ useSet (a ++ b) 1 ↔ c ∈ useSet a 1 ∨ c ∈ useSet b 1 := by
  rw [mem_uses, mem_uses, mem_uses, List.flatten_append, List.mem_append]
theorem parts_sure {a b : List (List Cell)} (ha : a ≠ []) (hb : b ≠ []) (c : Cell) : c ∈ useSet (a ++ b) (a ++ b).length ↔ c ∈ useSet a a.length ∧ c ∈ useSet b b.length := by
  rw [mem_sure (by simp [ha]), mem_sure ha, mem_sure hb]
  constructor
  · intro h
    exact ⟨fun L hL => h L (List.mem_append_left _ hL), fun L hL => h L (List.mem_append_right _ hL)⟩
  · rintro ⟨h1, h2⟩ L hL
    rcases List.mem_append.1 hL with h | h
    · exact h1 L h
    · exact h2 L h

theorem mapB_look {A : Ops} {E : Env} (hA : A = stdOps E) {L : List Cell} {ks vs : List PV} (hk : ks = encCells L) (hv : vs = L.map fun _ => .bool true) (c : Cell) :
    keysOk true [.bool, .int, .int] (A.eZip ks vs) (encCell c) ∧ (lookE (A.eZip ks vs) (encCell c)).getD (.bool false) = .bool (decide (c ∈ L)) := by
  subst hA
  have h2 : ks.zip vs = encM encCell (fun _ : Unit => PV.bool true) (L.map fun c => (c, ())) := by
    rw [hk, hv]
    unfold encM encCells
    rw [List.zip_map', List.map_map]
    rfl
  show keysOk true [.bool, .int, .int] (ks.zip vs) (encCell c) ∧ (lookE (ks.zip vs) (encCell c)).getD (.bool false) = _
  rw [h2]
  refine ⟨keysOk_Cell _ _, ?_⟩
  rw [lookE_enc keq_Cell (f := fun _ : Unit => PV.bool true)]
  have hm : hasM (L.map fun c => (c, ())) c = true ↔ c ∈ L := by
    rw [hasM_iff, List.map_map]
    show c ∈ L.map id ↔ _
    rw [List.map_id]
  by_cases h : c ∈ L
  · rw [decide_eq_true h]
    cases hl : lookM (L.map fun c => (c, ())) c with
    | some u => rfl
    | none => have := lookM_none.1 hl; rw [hm.2 h] at this; cases this
  · rw [decide_eq_false h]
    have : lookM (L.map fun c => (c, ())) c = none := lookM_none.2 (by
      cases hh : hasM (L.map fun c => (c, ())) c with
      | false => rfl
      | true => exact absurd (hm.1 hh) h)
    rw [this]; rfl
end Go.Abs
