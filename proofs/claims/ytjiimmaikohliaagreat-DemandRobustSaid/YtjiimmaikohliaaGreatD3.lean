/-
  Maps as lists of keys and what lies at them.
-/
import Derived.Test.YtjiimmaikohliaaGreatD2
set_option linter.unusedVariables false
set_option linter.unusedSimpArgs false
namespace Go.Abs
open Go.RowKit Go.Proofs

section
variable {κ α : Type} [DecidableEq κ]
def encM (ek : κ → PV) (f : α → PV) (es : List (κ × α)) : List (PV × PV) := es.map fun p => (ek p.1, f p.2)
def lookM (es : List (κ × α)) (c : κ) : Option α := (es.find? fun p => decide (c = p.1)).map (·.2)
def hasM (es : List (κ × α)) (c : κ) : Bool := es.any fun p => decide (c = p.1)
def putM (es : List (κ × α)) (c : κ) (v : α) : List (κ × α) := if hasM es c then es.map fun p => if decide (c = p.1) then (p.1, v) else p else es ++ [(c, v)]
def delM (es : List (κ × α)) (c : κ) : List (κ × α) := es.filter fun p => !decide (c = p.1)
def entM (es : List (κ × α)) (c : κ) (z : α) : List (κ × α) := if hasM es c then es else es ++ [(c, z)]
def NodM (es : List (κ × α)) : Prop := (es.map (·.1)).Nodup

variable {ek : κ → PV} {f : α → PV} (hk : ∀ a b, keq (ek a) (ek b) = decide (a = b))
include hk
theorem hasE_enc (es : List (κ × α)) (c : κ) : hasE (encM ek f es) (ek c) = hasM es c := by
  unfold hasE encM hasM
  rw [List.any_map]
  simp only [Function.comp_def, hk]
theorem lookE_enc (es : List (κ × α)) (c : κ) : lookE (encM ek f es) (ek c) = (lookM es c).map f := by
  unfold lookE encM lookM
  rw [List.find?_map]
  simp only [Function.comp_def, hk, Option.map_map]
theorem putE_enc (es : List (κ × α)) (c : κ) (v : α) : putE (encM ek f es) (ek c) (f v) = encM ek f (putM es c v) := by
  unfold putE putM
  rw [hasE_enc hk]
  split
  · unfold encM
    rw [List.map_map, List.map_map]
    refine List.map_congr_left fun p _ => ?_
    simp only [Function.comp_def, hk]
    split <;> rfl
  · unfold encM; simp
theorem entE_enc (es : List (κ × α)) (c : κ) (v : α) : entE (encM ek f es) (ek c) (f v) = encM ek f (entM es c v) := by
  unfold entE entM
  rw [hasE_enc hk]
  split
  · rfl
  · unfold encM; simp
theorem delE_enc (es : List (κ × α)) (c : κ) : delE (encM ek f es) (ek c) = encM ek f (delM es c) := by
  unfold delE delM encM
  rw [List.filter_map]
  simp only [Function.comp_def, hk]
omit hk

theorem hasM_iff {es : List (κ × α)} {c : κ} : hasM es c = true ↔ c ∈ es.map (·.1) := by
  unfold hasM
  simp only [List.any_eq_true, decide_eq_true_eq, List.mem_map]
  constructor
  · rintro ⟨p, h, e⟩; exact ⟨p, h, e.symm⟩
  · rintro ⟨p, h, e⟩; exact ⟨p, h, e.symm⟩
theorem putM_keys (es : List (κ × α)) (c : κ) (v : α) : (putM es c v).map (·.1) = if hasM es c then es.map (·.1) else es.map (·.1) ++ [c] := by
  unfold putM
  split
  · rw [List.map_map]
    refine List.map_congr_left fun p _ => ?_
    simp only [Function.comp_def]
    split <;> rfl
  · simp
theorem NodM.put {es : List (κ × α)} (h : NodM es) (c : κ) (v : α) : NodM (putM es c v) := by
  unfold NodM
  rw [putM_keys]
  split
  · exact h
  · rename_i hn
    rw [hasM_iff] at hn
    rw [List.nodup_append]
    refine ⟨h, by simp, fun a ha b hb e => ?_⟩
    simp at hb
    subst hb e
    exact hn ha
theorem NodM.del {es : List (κ × α)} (h : NodM es) (c : κ) : NodM (delM es c) := List.Nodup.sublist (List.Sublist.map _ (List.filter_sublist)) h
theorem lookM_none {es : List (κ × α)} {c : κ} : lookM es c = none ↔ hasM es c = false := by
  unfold lookM hasM
  rw [Option.map_eq_none_iff, List.find?_eq_none, List.any_eq_false]
theorem lookM_some_mem {es : List (κ × α)} {c : κ} {v : α} (h : lookM es c = some v) : (c, v) ∈ es := by
  unfold lookM at h
  rw [Option.map_eq_some_iff] at h
  obtain ⟨p, h1, h2⟩ := h
  have h3 := List.find?_some h1
  have h4 := List.mem_of_find?_eq_some h1
  simp only [decide_eq_true_eq] at h3
  obtain ⟨p1, p2⟩ := p
  simp only at h2 h3
  subst h2 h3; exact h4
theorem lookM_mem {es : List (κ × α)} (hn : NodM es) {c : κ} {v : α} (h : (c, v) ∈ es) : lookM es c = some v := by
  have hh : hasM es c = true := hasM_iff.2 (List.mem_map.2 ⟨_, h, rfl⟩)
  cases hl : lookM es c with
  | none => rw [lookM_none.1 hl] at hh; cases hh
  | some u =>
    have h2 := lookM_some_mem hl
    unfold NodM at hn
    induction es with
    | nil => cases h
    | cons p r ih =>
      simp only [List.map_cons, List.nodup_cons] at hn
      rcases List.mem_cons.1 h with e | h
      · rcases List.mem_cons.1 h2 with e2 | h2
        · rw [← e] at e2; cases e2; rfl
        · exact absurd (List.mem_map.2 ⟨_, h2, rfl⟩) (by rw [← e] at hn; exact hn.1)
      · rcases List.mem_cons.1 h2 with e2 | h2
        · exact absurd (List.mem_map.2 ⟨_, h, rfl⟩) (by rw [← e2] at hn; exact hn.1)
        · refine ih hn.2 h ?_ ?_ h2
          · exact hasM_iff.2 (List.mem_map.2 ⟨_, h, rfl⟩)
          · unfold lookM at hl ⊢
            rw [List.find?_cons] at hl
            split at hl
            · rename_i hc
              simp only [decide_eq_true_eq] at hc
              exact absurd (List.mem_map.2 ⟨_, h, rfl⟩) (by rw [hc]; exact hn.1)
            · exact hl
theorem lookM_put {es : List (κ × α)} {c d : κ} {v : α} : lookM (putM es c v) d = if d = c then some v else lookM es d := by
  unfold putM
  cases hh : hasM es c with
  | true =>
    rw [if_pos rfl]
    induction es with
    | nil => cases hh
    | cons p r ih =>
      unfold lookM
      rw [List.map_cons, List.find?_cons, List.find?_cons]
      by_cases e1 : c = p.1
      · rw [decide_eq_true e1, if_pos rfl]
        by_cases e2 : d = p.1
        · rw [decide_eq_true e2, if_pos (e2.trans e1.symm)]; rfl
        · rw [decide_eq_false e2, if_neg (fun e => e2 (e.trans e1))]
          simp only
          have : ∀ q ∈ r, (fun q : κ × α => decide (d = q.1)) ((fun p => if decide (c = p.1) = true then (p.1, v) else p) q) = (fun q : κ × α => decide (d = q.1)) q := fun q _ => by
            simp only; split <;> rfl
          clear ih hh
          induction r with
          | nil => rfl
          | cons q r ih =>
            rw [List.map_cons, List.find?_cons, List.find?_cons]
            by_cases e3 : d = q.1
            · have e4 : ¬ c = q.1 := fun e => e2 (e3.trans (e.symm.trans e1))
              rw [decide_eq_false e4, if_neg (by simp), decide_eq_true e3]
            · have e5 : decide (d = (if decide (c = q.1) = true then (q.1, v) else q).1) = false := by split <;> simp [e3]
              rw [e5, decide_eq_false e3]
              exact ih fun x hx => this x (List.mem_cons_of_mem _ hx)
      · rw [decide_eq_false e1, if_neg (by simp)]
        by_cases e2 : d = p.1
        · rw [decide_eq_true e2, if_neg (fun e => e1 (e.symm.trans e2))]
        · rw [decide_eq_false e2]
          have hr : hasM r c = true := by unfold hasM at hh ⊢; rw [List.any_cons, decide_eq_false e1, Bool.false_or] at hh; exact hh
          exact ih hr
  | false =>
    rw [if_neg (by simp)]
    unfold lookM
    rw [List.find?_append]
    by_cases e : d = c
    · subst e
      rw [if_pos rfl]
      have h0 := lookM_none.2 hh
      unfold lookM at h0
      rw [Option.map_eq_none_iff] at h0
      rw [h0]; simp
    · rw [if_neg e, List.find?_singleton]
      simp [e]
theorem lookM_ent {es : List (κ × α)} (c : κ) (z : α) : lookM (entM es c z) c = some ((lookM es c).getD z) := by
  unfold entM
  cases hh : hasM es c with
  | true =>
    rw [if_pos rfl]
    cases hl : lookM es c with
    | none => rw [lookM_none.1 hl] at hh; cases hh
    | some v => rfl
  | false =>
    have h0 := lookM_none.2 hh
    rw [if_neg (by simp), h0]
    unfold lookM at h0 ⊢
    rw [Option.map_eq_none_iff] at h0
    rw [List.find?_append, h0]
    simp
theorem putM_ent {es : List (κ × α)} (c : κ) (z v : α) : putM (entM es c z) c v = putM es c v := by
  unfold entM
  cases hh : hasM es c with
  | true => rw [if_pos rfl]
  | false =>
    rw [if_neg (by simp)]
    have h1 : putM es c v = es ++ [(c, v)] := by unfold putM; rw [hh, if_neg (by simp)]
    have h2 : putM (es ++ [(c, z)]) c v = (es ++ [(c, z)]).map fun p => if decide (c = p.1) then (p.1, v) else p := by
      unfold putM
      rw [show hasM (es ++ [(c, z)]) c = true by unfold hasM; simp, if_pos rfl]
    have h3 : es.map (fun p => if decide (c = p.1) then (p.1, v) else p) = es := by
      conv => rhs; rw [← List.map_id es]
      refine List.map_congr_left fun p hp => ?_
      have : decide (c = p.1) = false := by
        unfold hasM at hh
        rw [List.any_eq_false] at hh
        simpa using hh p hp
      rw [this]; rfl
    rw [h1, h2, List.map_append, h3]
    simp
end

theorem keq_Cell (a b : Cell) : keq (encCell a) (encCell b) = decide (a = b) := by
  obtain ⟨a1, a2, a3⟩ := a
  obtain ⟨b1, b2, b3⟩ := b
  simp [encCell, keq, keqL, keq1]
theorem keq_Int (a b : Int) : keq (encInt a) (encInt b) = decide (a = b) := by
  simp [encInt, keq, keq1]
theorem keysOk_Cell {α : Type} {f : α → PV} (es : List (Cell × α)) (c : Cell) : keysOk true [.bool, .int, .int] (encM encCell f es) (encCell c) := by
  refine ⟨⟨rfl, rfl⟩, rfl, fun p hp => ?_⟩
  unfold encM at hp
  obtain ⟨q, _, rfl⟩ := List.mem_map.1 hp
  refine ⟨rfl, ?_⟩
  simp only [keq_Cell]
  obtain ⟨⟨q1, q2, q3⟩, _⟩ := q
  obtain ⟨c1, c2, c3⟩ := c
  simp [encCell, PV.cells, eqCells, eqPV]
end Go.Abs
