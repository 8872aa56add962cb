/-
  Plain facts on the order of cells.
-/
import Derived.Test.YtjiimmaikohliaaGreatF41
import Derived.Test.YtjiimmaikohliaaGreatD5
set_option linter.unusedVariables false
set_option linter.unusedSimpArgs false
namespace Go.Abs
open Go.RowKit Go.Proofs Go.Sort

/-- A cell comes before another. -/
def cellLt (a b : Cell) : Prop := rankB a.Airport < rankB b.Airport ∨ (rankB a.Airport = rankB b.Airport ∧ (a.Index < b.Index ∨ (a.Index = b.Index ∧ a.Minute < b.Minute)))

theorem rankB_inj {a b : Bool} (h : rankB a = rankB b) : a = b := by
  cases a <;> cases b <;> simp [rankB] at h <;> rfl
theorem cell_ext {a b : Cell} (h1 : rankB a.Airport = rankB b.Airport) (h2 : a.Index = b.Index) (h3 : a.Minute = b.Minute) : a = b := by
  cases a; cases b; cases rankB_inj h1; cases h2; cases h3; rfl
theorem cmpC_def (a b : Cell) : cmpC a b = if rankB a.Airport < rankB b.Airport then -1 else if rankB b.Airport < rankB a.Airport then 1 else if a.Index < b.Index then -1 else if b.Index < a.Index then 1 else if a.Minute < b.Minute then -1 else if b.Minute < a.Minute then 1 else 0 := by
  unfold cmpC cmpI
  simp only [orI]
  repeat' split
  all_goals first | rfl | omega | simp_all
theorem cmpC_neg (a b : Cell) : cmpC a b < 0 ↔ cellLt a b := by
  rw [cmpC_def]
  unfold cellLt
  repeat' split
  all_goals omega
theorem cmpC_zero (a b : Cell) : cmpC a b = 0 ↔ a = b := by
  constructor
  · intro h
    rw [cmpC_def] at h
    repeat' split at h
    all_goals first | omega | exact cell_ext (by omega) (by omega) (by omega)
  · rintro rfl
    rw [cmpC_def]
    repeat' split
    all_goals omega
theorem cmpC_cases (a b : Cell) : cmpC a b = -1 ∨ cmpC a b = 0 ∨ cmpC a b = 1 := by
  rw [cmpC_def]
  repeat' split
  all_goals omega
theorem cmpC_swap (a b : Cell) : cmpC b a = -cmpC a b := by
  rw [cmpC_def, cmpC_def]
  repeat' split
  all_goals omega
theorem cellLt_irrefl (a : Cell) : ¬ cellLt a a := by unfold cellLt; omega
theorem cellLt_trans {a b c : Cell} (h : cellLt a b) (k : cellLt b c) : cellLt a c := by unfold cellLt at *; omega
theorem cellLt_asymm {a b : Cell} (h : cellLt a b) (k : cellLt b a) : False := cellLt_irrefl a (cellLt_trans h k)
theorem cellLt_tri (a b : Cell) : cellLt a b ∨ a = b ∨ cellLt b a := by
  by_cases h : cellLt a b
  · exact .inl h
  by_cases k : cellLt b a
  · exact .inr (.inr k)
  refine .inr (.inl ?_)
  unfold cellLt at h k
  exact cell_ext (by omega) (by omega) (by omega)
theorem ltC_iff (a b : Cell) : Go.Proofs.ltOf cmpC a b = true ↔ cellLt a b := by
  unfold Go.Proofs.ltOf
  rw [decide_eq_true_eq, cmpC_neg]
theorem ltC_false (a b : Cell) : Go.Proofs.ltOf cmpC a b = false ↔ ¬ cellLt a b := by
  rw [← ltC_iff]; simp
theorem swoC : SWO (Go.Proofs.ltOf cmpC) where
  irrefl x := by rw [ltC_false]; exact cellLt_irrefl x
  trans x y z h k := by rw [ltC_iff] at *; exact cellLt_trans h k
  ntrans x y z h k := by
    rw [ltC_false] at *
    unfold cellLt at *
    omega
theorem ltC_tri (x y : Cell) (h : Go.Proofs.ltOf cmpC x y = false) (k : Go.Proofs.ltOf cmpC y x = false) : x = y := by
  rw [ltC_false] at *
  rcases cellLt_tri x y with e | e | e
  · exact absurd e h
  · exact e
  · exact absurd e k

/-- Cells in order. -/
def sortC (l : List Cell) : List Cell := l.mergeSort fun x y => !(Go.Proofs.ltOf cmpC) y x
theorem sortC_perm (l : List Cell) : (sortC l).Perm l := List.mergeSort_perm _ _
theorem sortC_le (l : List Cell) : (sortC l).Pairwise fun x y => ¬ cellLt y x := by
  have := List.pairwise_mergeSort (le := fun x y => !(Go.Proofs.ltOf cmpC) y x) (fun a b c h k => by
    simp only [Bool.not_eq_true', ltC_false] at *
    unfold cellLt at *
    omega) (fun a b => by
    simp only [Bool.or_eq_true, Bool.not_eq_true', ltC_false]
    rcases cellLt_tri a b with h | h | h
    · exact .inl fun k => cellLt_asymm h k
    · subst h; exact .inl (cellLt_irrefl _)
    · exact .inr fun k => cellLt_asymm h k) l
  exact this.imp fun h => by simpa [ltC_false] using h
theorem sortC_lt {l : List Cell} (hn : l.Nodup) : (sortC l).Pairwise cellLt := by
  have h1 := sortC_le l
  have h2 : (sortC l).Nodup := (sortC_perm l).nodup_iff.2 hn
  refine (h1.and h2).imp ?_
  rintro a b ⟨k1, k2⟩
  rcases cellLt_tri a b with h | h | h
  · exact h
  · exact absurd h k2
  · exact absurd h k1
theorem sortC_congr {l l' : List Cell} (h : l.Perm l') : sortC l = sortC l' := by
  refine sorted_perm_eq (r := fun x y => ¬ cellLt y x) (fun x y h k => ?_) (((sortC_perm l).trans h).trans (sortC_perm l').symm) (sortC_le l) (sortC_le l')
  rcases cellLt_tri x y with e | e | e
  · exact absurd e k
  · exact e
  · exact absurd e h
/-- A list in strict order is what it is, sorted. -/
theorem sortC_eq {l l' : List Cell} (h : l.Perm l') (hs : l'.Pairwise cellLt) : sortC l = l' := by
  refine sorted_perm_eq (r := fun x y => ¬ cellLt y x) (fun x y h k => ?_) ((sortC_perm l).trans h) (sortC_le l) (hs.imp fun h k => cellLt_asymm h k)
  rcases cellLt_tri x y with e | e | e
  · exact absurd e k
  · exact e
  · exact absurd e h
end Go.Abs
