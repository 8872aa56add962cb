/-
  Plain law: what is sorted and made compact is as long as it was, exactly if all of it are other ones.
-/
import Derived.Test.YtbljnbpddboohaaGreatF18
set_option linter.unusedVariables false
set_option linter.unusedSimpArgs false
namespace Go.Abs
open Go.Lib

theorem onceB_iff (l : List Int) : onceB l = true ↔ l.Nodup := by
  obtain ⟨s, hs⟩ : ∃ s, s = l.mergeSort fun x y => decide (x ≤ y) := ⟨_, rfl⟩
  have hl : s.length = l.length := by rw [hs, List.length_mergeSort]
  have hp : List.Pairwise (fun x y => decide (x ≤ y) = true) s := by
    rw [hs]
    exact List.pairwise_mergeSort (fun a b c h1 h2 => by simp at h1 h2 ⊢; omega) (fun a b => by simp; omega) l
  have hn : s.Nodup ↔ l.Nodup := by rw [hs]; exact (List.mergeSort_perm l _).nodup_iff
  have hget : ∀ j (h : j < s.length), s.toArray[j]! = s[j] := fun j h => by simp [h]
  have hO : onceB l = true ↔ ∀ j, j < s.length → (j = 0 ∨ s.toArray[j]! ≠ s.toArray[j - 1]!) := by
    unfold onceB
    rw [← hs, decide_eq_true_iff, ← hl]
    unfold compactUpTo
    rw [List.length_map]
    have h := List.length_filter_eq_length_iff (p := keeps s.toArray) (l := List.range s.length)
    rw [List.length_range] at h
    rw [h]
    simp only [List.mem_range, keeps, decide_eq_true_iff]
  rw [hO, ← hn]
  constructor
  · intro h
    refine (List.pairwise_iff_getElem.2 fun i j hi hj hij => ?_ : List.Pairwise (· < ·) s).imp (fun hab => by omega)
    have h1 : s[i] ≤ s[j - 1]'(by omega) := by
      rcases Nat.lt_or_eq_of_le (Nat.le_sub_one_of_lt hij) with h2 | h2
      · simpa using List.pairwise_iff_getElem.1 hp i (j - 1) hi (by omega) h2
      · simp [h2]
    have h3 : s[j - 1]'(by omega) ≤ s[j] := by simpa using List.pairwise_iff_getElem.1 hp (j - 1) j (by omega) hj (by omega)
    have h4 := h j hj
    rw [hget j hj, hget (j - 1) (by omega)] at h4
    rcases h4 with h4 | h4
    · omega
    · omega
  · intro h j hj
    rcases Nat.eq_zero_or_pos j with h0 | h0
    · exact .inl h0
    · refine .inr ?_
      rw [hget j hj, hget (j - 1) (by omega)]
      intro e
      exact List.pairwise_iff_getElem.1 h (j - 1) j (by omega) hj (by omega) e.symm
end Go.Abs
