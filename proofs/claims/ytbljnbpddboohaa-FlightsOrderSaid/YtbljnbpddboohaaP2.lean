/-
  Plain law: the measures of a flight are in order; the first one, the last one.
-/
import Derived.Test.YtbljnbpddboohaaM8
set_option linter.unusedVariables false
set_option linter.unusedSimpArgs false
namespace Go.Abs

theorem optAt_lt {n : Nat} (hn : 1 ≤ n) (k : Nat) : ltO (optAt n k) (optAt n (k + 1)) := by
  have hB : 0 < 3 * n := by omega
  have hk := Nat.div_add_mod k (3 * n)
  have hr := Nat.mod_lt k hB
  unfold ltO optAt
  refine .inr ⟨rfl, ?_⟩
  simp only
  generalize hq : k / (3 * n) = q at hk ⊢
  generalize hr' : k % (3 * n) = r at hk hr ⊢
  have e3 : k % 3 = r % 3 := by rw [← hr', Nat.mod_mul_right_mod]
  rcases Nat.lt_or_ge (r + 1) (3 * n) with h | h
  · have e1 : (k + 1) / (3 * n) = q := by rw [← hk, Nat.add_assoc, Nat.mul_add_div hB, Nat.div_eq_of_lt h, Nat.add_zero]
    have e2 : (k + 1) % (3 * n) = r + 1 := by rw [← hk, Nat.add_assoc, Nat.mul_add_mod, Nat.mod_eq_of_lt h]
    rw [e1, e2, e3]
    refine .inr ⟨rfl, ?_⟩
    omega
  · have e1 : (k + 1) / (3 * n) = q + 1 := by
      rw [← hk, Nat.add_assoc, Nat.mul_add_div hB, show r + 1 = 3 * n by omega, Nat.div_self hB]
    rw [e1]
    refine .inl ?_
    omega

theorem measO_sorted {L : Int} {n : Nat} {c : Bool} (hn : 1 ≤ n) {i : Nat} {a b : Opt} (h1 : (measO L n c)[i]? = some a) (h2 : (measO L n c)[i + 1]? = some b) : ltO a b := by
  unfold measO at h1 h2
  rw [List.getElem?_append] at h1 h2
  simp only [List.length_map, List.length_range] at h1 h2
  split at h2
  · rename_i h
    rw [if_pos (by omega)] at h1
    rw [List.getElem?_map, List.getElem?_range (by omega)] at h1 h2
    simp at h1 h2
    subst h1 h2
    exact optAt_lt hn i
  · rename_i h
    cases c with
    | false => simp at h2
    | true =>
      simp only [if_true] at h1 h2
      rcases Nat.eq_or_lt_of_le (Nat.le_of_not_lt h) with e | e
      · rw [← e] at h2
        simp at h2
        rw [if_pos (by omega), List.getElem?_map, List.getElem?_range (by omega)] at h1
        simp at h1
        subst h1 h2
        exact .inl ⟨rfl, rfl⟩
      · rw [List.getElem?_eq_none (by simp; omega)] at h2
        cases h2

theorem measO_head {L : Int} {n : Nat} {c : Bool} (hL : 0 ≤ L) (hn : 1 ≤ n) : (measO L n c)[0]? = some ⟨0, 0, 0, false⟩ := by
  have : 0 < (L / 10 + 1).toNat * (3 * n) := Nat.mul_pos (by omega) (by omega)
  unfold measO
  rw [List.getElem?_append_left (by simpa using this), List.getElem?_map, List.getElem?_range this]
  simp [optAt]

theorem measO_flip (L : Int) (n : Nat) : measO L n true = measO L n false ++ [⟨0, 0, 0, true⟩] := by
  unfold measO; simp
theorem measO_lastC {L : Int} {n : Nat} {c : Bool} (hL : 0 ≤ L) (hn : 1 ≤ n) {a : Opt} (h : (measO L n c)[(measO L n c).length - 1]? = some a) : a.Cancel = c := by
  have hp : 0 < (L / 10 + 1).toNat * (3 * n) := Nat.mul_pos (by omega) (by omega)
  cases c with
  | true =>
    rw [measO_flip] at h
    simp at h
    subst h; rfl
  | false =>
    have h1 := List.mem_of_getElem? h
    unfold measO at h1
    simp at h1
    obtain ⟨k, _, rfl⟩ := h1
    rfl
theorem measO_take (L : Int) (n : Nat) (c : Bool) : (measO L n c).take ((L / 10 + 1).toNat * (3 * n)) = measO L n false := by
  unfold measO
  rw [List.take_left' (by simp)]; simp
end Go.Abs
